import Derived.Test.YtikbkaedemmpmaaG28

set_option linter.unusedSimpArgs false
set_option linter.unusedVariables false

/- Layer 10, walked: the fields of a message read. -/
-- cuts
namespace Go.Aff.L10
open Go.Proofs Go.Aff Go.Aff.L01 Classical
set_option linter.unusedVariables false
set_option linter.unusedSimpArgs false
set_option maxRecDepth 20000
attribute [local go_sem] push_app app_app length_app cellAt_app cellAt_app0 set_app set_app0 objs_app objs_app0 List.cons_append List.nil_append List.length_cons List.length_nil List.getElem?_cons_zero List.getElem?_cons_succ List.set_cons_zero List.set_cons_succ List.length_map
attribute [-go_sem] cellAt_new
attribute [-simp] List.length_flatMap
attribute [local go_sem] Try.underlying3 Try.underlying4 Try.underlying5 Try.underlying9 Try.underlying36 Try.underlying37 Try.underlying42 Try.underlying45 Try.underlying31 Try.underlying61 subPs_0 subAt_0 subSet_0 subPs_1 subAt_1 subSet_1 subPs_2 subAt_2 subSet_2 subPs_3 subAt_3 subSet_3 subPs_4 subAt_4 subSet_4 subPs_5 subAt_5 subSet_5 sizes_sub shapes_sub fits_sub zero_sub zt_sub built_sub Try.underlying41 pendPs_0 pendAt_0 pendSet_0 pendPs_1 pendAt_1 pendSet_1 pendPs_2 pendAt_2 pendSet_2 pendPs_3 pendAt_3 pendSet_3 pendPs_4 pendAt_4 pendSet_4 pendPs_5 pendAt_5 pendSet_5 sizes_pend shapes_pend fits_pend zero_pend zt_pend built_pend Try.underlying92 repPs_0 repAt_0 repSet_0 repPs_1 repAt_1 repSet_1 repPs_2 repAt_2 repSet_2 repPs_3 repAt_3 repSet_3 repPs_4 repAt_4 repSet_4 repPs_5 repAt_5 repSet_5 repPs_6 repAt_6 repSet_6 repPs_7 repAt_7 repSet_7 repPs_8 repAt_8 repSet_8 repPs_9 repAt_9 repSet_9 sizes_rep shapes_rep fits_rep zero_rep zt_rep built_rep Try.underlying44 blobPs_0 blobAt_0 blobSet_0 blobPs_1 blobAt_1 blobSet_1 blobPs_2 blobAt_2 blobSet_2 blobPs_3 blobAt_3 blobSet_3 sizes_blob shapes_blob fits_blob zero_blob zt_blob built_blob Try.underlying39 msgPs_0 msgAt_0 msgSet_0 msgPs_1 msgAt_1 msgSet_1 msgPs_2 msgAt_2 msgSet_2 msgPs_3 msgAt_3 msgSet_3 msgPs_4 msgAt_4 msgSet_4 msgPs_5 msgAt_5 msgSet_5 msgPs_6 msgAt_6 msgSet_6 msgPs_7 msgAt_7 msgSet_7 msgPs_8 msgAt_8 msgSet_8 msgPs_9 msgAt_9 msgSet_9 sizes_msg shapes_msg fits_msg zero_msg zt_msg built_msg Try.underlying47 at_Ps_0 at_Set_0 at_Ps_1 at_Set_1 sizes_at_ shapes_at_
attribute [local go_sem] fits3 fits4 fits5 fits9 fits23 fits26 fits31 fits34 fits52 zt3 zero3 zt34 zero34 zt23 zero23 bin_sub_eql bin_pend_eql bin_pend_neq bin_blob_eql bin_dig23_eql bin_dig23_neq slice23
attribute [local go_sem ↓] blockQ_exit2
attribute [local simp] dig_ext
attribute [local go_sem] rdrPs_0 rdrAt_0 rdrSet_0 rdrPs_1 rdrAt_1 rdrSet_1 rdrPs_2 rdrAt_2 rdrSet_2 sizes_rdr shapes_rdr fits_rdr zero_rdr zt_rdr built_rdr Try.underlying71 Try.underlying69 Try.underlying75 bin_bool_ne appc appn built23

theorem msgSet_9s {m : Msg} {t u v : Tk} {l : List Int} : (msgPs t u m).set 9 (.slice v (l.map (AV.int .i64))) = msgPs t v { m with nums := l } := rfl
theorem slV_eq {l : List Int} : slV (AV.int .i64) l = .slice (L01.tk' l) (l.map (AV.int .i64)) := rfl
attribute [local go_sem] msgSet_9s slV_eq
noncomputable def Rdr.fields (r : Rdr) (m : Msg) : Msg × Rdr :=
  if m.kind = 1 then ((⟨m.kind, m.client, ⟨r.int.1, r.int.2.int.1, r.int.2.int.2.int.1, r.int.2.int.2.int.2.text.1, r.int.2.int.2.int.2.text.2.dig.1, r.int.2.int.2.int.2.text.2.dig.2.dig.1⟩, m.rep, m.view, m.by_, m.tag, m.own, m.blob, m.nums⟩ : Msg), r.int.2.int.2.int.2.text.2.dig.2.dig.2)
  else if m.kind = 2 then ((⟨m.kind, m.client, m.sub, r.rep.1, m.view, m.by_, m.tag, m.own, m.blob, m.nums⟩ : Msg), r.rep.2)
  else if m.kind = 3 then ((⟨m.kind, m.client, m.sub, m.rep, r.text.1, m.by_, r.text.2.dig.1, m.own, m.blob, m.nums⟩ : Msg), r.text.2.dig.2)
  else if m.kind = 4 ∨ m.kind = 6 then ((⟨m.kind, m.client, m.sub, m.rep, m.view, m.by_, m.tag, m.own, ⟨r.int.1, r.int.2.int.1, r.int.2.int.2.text.1, r.int.2.int.2.text.2.dig.1⟩, m.nums⟩ : Msg), r.int.2.int.2.text.2.dig.2)
  else if m.kind = 5 ∨ m.kind = 7 ∨ m.kind = 8 then ((⟨m.kind, m.client, m.sub, m.rep, m.view, m.by_, m.tag, m.own, m.blob, r.ints.1⟩ : Msg), r.ints.2)
  else if m.kind = 10 then ((⟨m.kind, m.client, m.sub, m.rep, r.int.2.text.1, r.int.1, r.int.2.text.2.dig.1, r.int.2.text.2.dig.2.dig.1, m.blob, m.nums⟩ : Msg), r.int.2.text.2.dig.2.dig.2)
  else if m.kind = 11 then ((⟨m.kind, m.client, m.sub, m.rep, m.view, m.by_, m.tag, r.dig.1, m.blob, m.nums⟩ : Msg), r.dig.2)
  else (m, r)
theorem kinds_all (n : Int) : n = 1 ∨ n = 2 ∨ n = 3 ∨ n = 4 ∨ n = 6 ∨ n = 5 ∨ n = 7 ∨ n = 8 ∨ n = 10 ∨ n = 11 ∨ (¬ n = 1 ∧ ¬ n = 2 ∧ ¬ n = 3 ∧ ¬ n = 4 ∧ ¬ n = 6 ∧ ¬ n = 5 ∧ ¬ n = 7 ∧ ¬ n = 8 ∧ ¬ n = 10 ∧ ¬ n = 11) := by omega
theorem rfields_c {r : Rdr} {m : Msg} {t u : Tk} {T : List (Nat × Nat)} {j k : Nat} {F : List (Nat × AObj)} {σ0 σ : AST} {K : AV → AST → Prop} (hR : RF σ0 σ T j r ((k, .cells (msgV t u m)) :: F)) (hk : σ0.objs.length ≤ k) (hF : ∀ x ∈ F, x.1 ≠ k)
    (hK : ∀ s T' t' u', RF σ0 s T' j (r.fields m).2 ((k, .cells (msgV t' u' (r.fields m).1)) :: F) → K (.tuple []) s) : TCalls Try.prog 27 [.ptr (some (j, [])), .ptr (some (k, []))] σ K := by
  refine tcalls_walk Try.f27 _ [] Try.func27 rfl rfl rfl mixed (Nat.le_of_ble_eq_true rfl) rfl fun hlen => ?_
  have h0 := hR.f (k, _) (List.mem_cons_self ..)
  have c0 := cellAt_known h0.2
  simp -dsimp only [↓reduceIte, go_sem, c0]
  rcases kinds_all m.kind with hq | hq | hq | hq | hq | hq | hq | hq | hq | hq | hq
  · have e : r.fields m = ((⟨m.kind, m.client, ⟨r.int.1, r.int.2.int.1, r.int.2.int.2.int.1, r.int.2.int.2.int.2.text.1, r.int.2.int.2.int.2.text.2.dig.1, r.int.2.int.2.int.2.text.2.dig.2.dig.1⟩, m.rep, m.view, m.by_, m.tag, m.own, m.blob, m.nums⟩ : Msg), r.int.2.int.2.int.2.text.2.dig.2.dig.2) := by simp [Rdr.fields, hq]
    rw [e, hq] at hK
    simp -dsimp only [↓reduceIte, go_sem, hq]
    refine int_c hR fun s hR => ?_
    simp -dsimp only [↓reduceIte, go_sem, hq]
    refine int_c hR fun s hR => ?_
    simp -dsimp only [↓reduceIte, go_sem, hq]
    refine int_c hR fun s hR => ?_
    simp -dsimp only [↓reduceIte, go_sem, hq]
    refine rtext_c hR fun s hR => ?_
    simp -dsimp only [↓reduceIte, go_sem, hq]
    refine rdig_c hR fun s hR => ?_
    simp -dsimp only [↓reduceIte, go_sem, hq]
    refine rdig_c hR fun s hR => ?_
    have h2 := hR.f (k, _) (List.mem_cons_self ..)
    have c2 := cellAt_known h2.2
    have hkl := (List.getElem?_eq_some_iff.1 h2.2).1
    repeat' (first | (simp -dsimp only [↓reduceIte, go_sem, hq, c2, h2.2, set_set, cellAt_setS, objs_setS, hkl]) | (refine arr_intro fun _ => ?_) | (refine later_intro ⟨keeps_nil, ?_⟩) | (refine later_intro ⟨keeps_refl, ?_⟩) | (with_reducible refine keeps_go ?_ ?_; focus (first | (simp [keeps_cons, keeps_none, objs_app, objs_app0]; done) | (simp only [keeps_cons, keeps_none, objs_app0, objs_app, and_true]; first | rfl | exact ⟨rfl, rfl⟩ | exact ⟨rfl, rfl, rfl⟩))) | (with_reducible refine (And.intro (a := keeps _ _ _) ?_ ?_); focus (first | (simp [keeps_cons, keeps_none, objs_app, objs_app0]; done) | (simp only [keeps_cons, keeps_none, objs_app0, objs_app, and_true]; first | rfl | exact ⟨rfl, rfl⟩ | exact ⟨rfl, rfl, rfl⟩))) | (refine both_ways ?_ ?_) | (rw [wrap_i64 (by omega) (by omega)]) | (refine guardV_split (fun h => ?_) (fun h => ?_) <;> (try rw [h]) <;> (try simp at h) <;> (try (exfalso; omega))))
    exact hK _ T t u (hR.upd hk hF)
  · have e : r.fields m = ((⟨m.kind, m.client, m.sub, r.rep.1, m.view, m.by_, m.tag, m.own, m.blob, m.nums⟩ : Msg), r.rep.2) := by simp [Rdr.fields, hq]
    rw [e, hq] at hK
    simp -dsimp only [↓reduceIte, go_sem, hq]
    refine rans_c hR fun s T' t' hR => ?_
    have h2 := hR.f (k, _) (List.mem_cons_self ..)
    have c2 := cellAt_known h2.2
    have hkl := (List.getElem?_eq_some_iff.1 h2.2).1
    repeat' (first | (simp -dsimp only [↓reduceIte, go_sem, hq, c2, h2.2, set_set, cellAt_setS, objs_setS, hkl]) | (refine arr_intro fun _ => ?_) | (refine later_intro ⟨keeps_nil, ?_⟩) | (refine later_intro ⟨keeps_refl, ?_⟩) | (with_reducible refine keeps_go ?_ ?_; focus (first | (simp [keeps_cons, keeps_none, objs_app, objs_app0]; done) | (simp only [keeps_cons, keeps_none, objs_app0, objs_app, and_true]; first | rfl | exact ⟨rfl, rfl⟩ | exact ⟨rfl, rfl, rfl⟩))) | (with_reducible refine (And.intro (a := keeps _ _ _) ?_ ?_); focus (first | (simp [keeps_cons, keeps_none, objs_app, objs_app0]; done) | (simp only [keeps_cons, keeps_none, objs_app0, objs_app, and_true]; first | rfl | exact ⟨rfl, rfl⟩ | exact ⟨rfl, rfl, rfl⟩))) | (refine both_ways ?_ ?_) | (rw [wrap_i64 (by omega) (by omega)]) | (refine guardV_split (fun h => ?_) (fun h => ?_) <;> (try rw [h]) <;> (try simp at h) <;> (try (exfalso; omega))))
    exact hK _ T' t' u (hR.upd hk hF)
  · have e : r.fields m = ((⟨m.kind, m.client, m.sub, m.rep, r.text.1, m.by_, r.text.2.dig.1, m.own, m.blob, m.nums⟩ : Msg), r.text.2.dig.2) := by simp [Rdr.fields, hq]
    rw [e, hq] at hK
    simp -dsimp only [↓reduceIte, go_sem, hq]
    refine rtext_c hR fun s hR => ?_
    simp -dsimp only [↓reduceIte, go_sem, hq]
    refine rdig_c hR fun s hR => ?_
    have h2 := hR.f (k, _) (List.mem_cons_self ..)
    have c2 := cellAt_known h2.2
    have hkl := (List.getElem?_eq_some_iff.1 h2.2).1
    repeat' (first | (simp -dsimp only [↓reduceIte, go_sem, hq, c2, h2.2, set_set, cellAt_setS, objs_setS, hkl]) | (refine arr_intro fun _ => ?_) | (refine later_intro ⟨keeps_nil, ?_⟩) | (refine later_intro ⟨keeps_refl, ?_⟩) | (with_reducible refine keeps_go ?_ ?_; focus (first | (simp [keeps_cons, keeps_none, objs_app, objs_app0]; done) | (simp only [keeps_cons, keeps_none, objs_app0, objs_app, and_true]; first | rfl | exact ⟨rfl, rfl⟩ | exact ⟨rfl, rfl, rfl⟩))) | (with_reducible refine (And.intro (a := keeps _ _ _) ?_ ?_); focus (first | (simp [keeps_cons, keeps_none, objs_app, objs_app0]; done) | (simp only [keeps_cons, keeps_none, objs_app0, objs_app, and_true]; first | rfl | exact ⟨rfl, rfl⟩ | exact ⟨rfl, rfl, rfl⟩))) | (refine both_ways ?_ ?_) | (rw [wrap_i64 (by omega) (by omega)]) | (refine guardV_split (fun h => ?_) (fun h => ?_) <;> (try rw [h]) <;> (try simp at h) <;> (try (exfalso; omega))))
    exact hK _ T t u (hR.upd hk hF)
  · have e : r.fields m = ((⟨m.kind, m.client, m.sub, m.rep, m.view, m.by_, m.tag, m.own, ⟨r.int.1, r.int.2.int.1, r.int.2.int.2.text.1, r.int.2.int.2.text.2.dig.1⟩, m.nums⟩ : Msg), r.int.2.int.2.text.2.dig.2) := by simp [Rdr.fields, hq]
    rw [e, hq] at hK
    simp -dsimp only [↓reduceIte, go_sem, hq]
    refine int_c hR fun s hR => ?_
    simp -dsimp only [↓reduceIte, go_sem, hq]
    refine int_c hR fun s hR => ?_
    simp -dsimp only [↓reduceIte, go_sem, hq]
    refine rtext_c hR fun s hR => ?_
    simp -dsimp only [↓reduceIte, go_sem, hq]
    refine rdig_c hR fun s hR => ?_
    have h2 := hR.f (k, _) (List.mem_cons_self ..)
    have c2 := cellAt_known h2.2
    have hkl := (List.getElem?_eq_some_iff.1 h2.2).1
    repeat' (first | (simp -dsimp only [↓reduceIte, go_sem, hq, c2, h2.2, set_set, cellAt_setS, objs_setS, hkl]) | (refine arr_intro fun _ => ?_) | (refine later_intro ⟨keeps_nil, ?_⟩) | (refine later_intro ⟨keeps_refl, ?_⟩) | (with_reducible refine keeps_go ?_ ?_; focus (first | (simp [keeps_cons, keeps_none, objs_app, objs_app0]; done) | (simp only [keeps_cons, keeps_none, objs_app0, objs_app, and_true]; first | rfl | exact ⟨rfl, rfl⟩ | exact ⟨rfl, rfl, rfl⟩))) | (with_reducible refine (And.intro (a := keeps _ _ _) ?_ ?_); focus (first | (simp [keeps_cons, keeps_none, objs_app, objs_app0]; done) | (simp only [keeps_cons, keeps_none, objs_app0, objs_app, and_true]; first | rfl | exact ⟨rfl, rfl⟩ | exact ⟨rfl, rfl, rfl⟩))) | (refine both_ways ?_ ?_) | (rw [wrap_i64 (by omega) (by omega)]) | (refine guardV_split (fun h => ?_) (fun h => ?_) <;> (try rw [h]) <;> (try simp at h) <;> (try (exfalso; omega))))
    exact hK _ T t u (hR.upd hk hF)
  · have e : r.fields m = ((⟨m.kind, m.client, m.sub, m.rep, m.view, m.by_, m.tag, m.own, ⟨r.int.1, r.int.2.int.1, r.int.2.int.2.text.1, r.int.2.int.2.text.2.dig.1⟩, m.nums⟩ : Msg), r.int.2.int.2.text.2.dig.2) := by simp [Rdr.fields, hq]
    rw [e, hq] at hK
    simp -dsimp only [↓reduceIte, go_sem, hq]
    refine int_c hR fun s hR => ?_
    simp -dsimp only [↓reduceIte, go_sem, hq]
    refine int_c hR fun s hR => ?_
    simp -dsimp only [↓reduceIte, go_sem, hq]
    refine rtext_c hR fun s hR => ?_
    simp -dsimp only [↓reduceIte, go_sem, hq]
    refine rdig_c hR fun s hR => ?_
    have h2 := hR.f (k, _) (List.mem_cons_self ..)
    have c2 := cellAt_known h2.2
    have hkl := (List.getElem?_eq_some_iff.1 h2.2).1
    repeat' (first | (simp -dsimp only [↓reduceIte, go_sem, hq, c2, h2.2, set_set, cellAt_setS, objs_setS, hkl]) | (refine arr_intro fun _ => ?_) | (refine later_intro ⟨keeps_nil, ?_⟩) | (refine later_intro ⟨keeps_refl, ?_⟩) | (with_reducible refine keeps_go ?_ ?_; focus (first | (simp [keeps_cons, keeps_none, objs_app, objs_app0]; done) | (simp only [keeps_cons, keeps_none, objs_app0, objs_app, and_true]; first | rfl | exact ⟨rfl, rfl⟩ | exact ⟨rfl, rfl, rfl⟩))) | (with_reducible refine (And.intro (a := keeps _ _ _) ?_ ?_); focus (first | (simp [keeps_cons, keeps_none, objs_app, objs_app0]; done) | (simp only [keeps_cons, keeps_none, objs_app0, objs_app, and_true]; first | rfl | exact ⟨rfl, rfl⟩ | exact ⟨rfl, rfl, rfl⟩))) | (refine both_ways ?_ ?_) | (rw [wrap_i64 (by omega) (by omega)]) | (refine guardV_split (fun h => ?_) (fun h => ?_) <;> (try rw [h]) <;> (try simp at h) <;> (try (exfalso; omega))))
    exact hK _ T t u (hR.upd hk hF)
  · have e : r.fields m = ((⟨m.kind, m.client, m.sub, m.rep, m.view, m.by_, m.tag, m.own, m.blob, r.ints.1⟩ : Msg), r.ints.2) := by simp [Rdr.fields, hq]
    rw [e, hq] at hK
    simp -dsimp only [↓reduceIte, go_sem, hq]
    refine withInts_c hR fun s hR => ?_
    have h2 := hR.f (k, _) (List.mem_cons_self ..)
    have c2 := cellAt_known h2.2
    have hkl := (List.getElem?_eq_some_iff.1 h2.2).1
    repeat' (first | (simp -dsimp only [↓reduceIte, go_sem, hq, c2, h2.2, set_set, cellAt_setS, objs_setS, hkl]) | (refine arr_intro fun _ => ?_) | (refine later_intro ⟨keeps_nil, ?_⟩) | (refine later_intro ⟨keeps_refl, ?_⟩) | (with_reducible refine keeps_go ?_ ?_; focus (first | (simp [keeps_cons, keeps_none, objs_app, objs_app0]; done) | (simp only [keeps_cons, keeps_none, objs_app0, objs_app, and_true]; first | rfl | exact ⟨rfl, rfl⟩ | exact ⟨rfl, rfl, rfl⟩))) | (with_reducible refine (And.intro (a := keeps _ _ _) ?_ ?_); focus (first | (simp [keeps_cons, keeps_none, objs_app, objs_app0]; done) | (simp only [keeps_cons, keeps_none, objs_app0, objs_app, and_true]; first | rfl | exact ⟨rfl, rfl⟩ | exact ⟨rfl, rfl, rfl⟩))) | (refine both_ways ?_ ?_) | (rw [wrap_i64 (by omega) (by omega)]) | (refine guardV_split (fun h => ?_) (fun h => ?_) <;> (try rw [h]) <;> (try simp at h) <;> (try (exfalso; omega))))
    exact hK _ T t (L01.tk' r.ints.1) (hR.upd hk hF)
  · have e : r.fields m = ((⟨m.kind, m.client, m.sub, m.rep, m.view, m.by_, m.tag, m.own, m.blob, r.ints.1⟩ : Msg), r.ints.2) := by simp [Rdr.fields, hq]
    rw [e, hq] at hK
    simp -dsimp only [↓reduceIte, go_sem, hq]
    refine withInts_c hR fun s hR => ?_
    have h2 := hR.f (k, _) (List.mem_cons_self ..)
    have c2 := cellAt_known h2.2
    have hkl := (List.getElem?_eq_some_iff.1 h2.2).1
    repeat' (first | (simp -dsimp only [↓reduceIte, go_sem, hq, c2, h2.2, set_set, cellAt_setS, objs_setS, hkl]) | (refine arr_intro fun _ => ?_) | (refine later_intro ⟨keeps_nil, ?_⟩) | (refine later_intro ⟨keeps_refl, ?_⟩) | (with_reducible refine keeps_go ?_ ?_; focus (first | (simp [keeps_cons, keeps_none, objs_app, objs_app0]; done) | (simp only [keeps_cons, keeps_none, objs_app0, objs_app, and_true]; first | rfl | exact ⟨rfl, rfl⟩ | exact ⟨rfl, rfl, rfl⟩))) | (with_reducible refine (And.intro (a := keeps _ _ _) ?_ ?_); focus (first | (simp [keeps_cons, keeps_none, objs_app, objs_app0]; done) | (simp only [keeps_cons, keeps_none, objs_app0, objs_app, and_true]; first | rfl | exact ⟨rfl, rfl⟩ | exact ⟨rfl, rfl, rfl⟩))) | (refine both_ways ?_ ?_) | (rw [wrap_i64 (by omega) (by omega)]) | (refine guardV_split (fun h => ?_) (fun h => ?_) <;> (try rw [h]) <;> (try simp at h) <;> (try (exfalso; omega))))
    exact hK _ T t (L01.tk' r.ints.1) (hR.upd hk hF)
  · have e : r.fields m = ((⟨m.kind, m.client, m.sub, m.rep, m.view, m.by_, m.tag, m.own, m.blob, r.ints.1⟩ : Msg), r.ints.2) := by simp [Rdr.fields, hq]
    rw [e, hq] at hK
    simp -dsimp only [↓reduceIte, go_sem, hq]
    refine withInts_c hR fun s hR => ?_
    have h2 := hR.f (k, _) (List.mem_cons_self ..)
    have c2 := cellAt_known h2.2
    have hkl := (List.getElem?_eq_some_iff.1 h2.2).1
    repeat' (first | (simp -dsimp only [↓reduceIte, go_sem, hq, c2, h2.2, set_set, cellAt_setS, objs_setS, hkl]) | (refine arr_intro fun _ => ?_) | (refine later_intro ⟨keeps_nil, ?_⟩) | (refine later_intro ⟨keeps_refl, ?_⟩) | (with_reducible refine keeps_go ?_ ?_; focus (first | (simp [keeps_cons, keeps_none, objs_app, objs_app0]; done) | (simp only [keeps_cons, keeps_none, objs_app0, objs_app, and_true]; first | rfl | exact ⟨rfl, rfl⟩ | exact ⟨rfl, rfl, rfl⟩))) | (with_reducible refine (And.intro (a := keeps _ _ _) ?_ ?_); focus (first | (simp [keeps_cons, keeps_none, objs_app, objs_app0]; done) | (simp only [keeps_cons, keeps_none, objs_app0, objs_app, and_true]; first | rfl | exact ⟨rfl, rfl⟩ | exact ⟨rfl, rfl, rfl⟩))) | (refine both_ways ?_ ?_) | (rw [wrap_i64 (by omega) (by omega)]) | (refine guardV_split (fun h => ?_) (fun h => ?_) <;> (try rw [h]) <;> (try simp at h) <;> (try (exfalso; omega))))
    exact hK _ T t (L01.tk' r.ints.1) (hR.upd hk hF)
  · have e : r.fields m = ((⟨m.kind, m.client, m.sub, m.rep, r.int.2.text.1, r.int.1, r.int.2.text.2.dig.1, r.int.2.text.2.dig.2.dig.1, m.blob, m.nums⟩ : Msg), r.int.2.text.2.dig.2.dig.2) := by simp [Rdr.fields, hq]
    rw [e, hq] at hK
    simp -dsimp only [↓reduceIte, go_sem, hq]
    refine int_c hR fun s hR => ?_
    simp -dsimp only [↓reduceIte, go_sem, hq]
    refine rtext_c hR fun s hR => ?_
    have h2 := hR.f (k, _) (List.mem_cons_self ..)
    have c2 := cellAt_known h2.2
    have hkl := (List.getElem?_eq_some_iff.1 h2.2).1
    repeat' (first | (simp -dsimp only [↓reduceIte, go_sem, hq, c2, h2.2, set_set, cellAt_setS, objs_setS, hkl]) | (refine arr_intro fun _ => ?_) | (refine later_intro ⟨keeps_nil, ?_⟩) | (refine later_intro ⟨keeps_refl, ?_⟩) | (with_reducible refine keeps_go ?_ ?_; focus (first | (simp [keeps_cons, keeps_none, objs_app, objs_app0]; done) | (simp only [keeps_cons, keeps_none, objs_app0, objs_app, and_true]; first | rfl | exact ⟨rfl, rfl⟩ | exact ⟨rfl, rfl, rfl⟩))) | (with_reducible refine (And.intro (a := keeps _ _ _) ?_ ?_); focus (first | (simp [keeps_cons, keeps_none, objs_app, objs_app0]; done) | (simp only [keeps_cons, keeps_none, objs_app0, objs_app, and_true]; first | rfl | exact ⟨rfl, rfl⟩ | exact ⟨rfl, rfl, rfl⟩))) | (refine both_ways ?_ ?_) | (rw [wrap_i64 (by omega) (by omega)]) | (refine guardV_split (fun h => ?_) (fun h => ?_) <;> (try rw [h]) <;> (try simp at h) <;> (try (exfalso; omega))))
    have hR := hR.upd (o' := .cells (msgV t u ⟨10, m.client, m.sub, m.rep, r.int.2.text.1, r.int.1, m.tag, m.own, m.blob, m.nums⟩)) hk hF
    refine rdig_c hR fun s hR => ?_
    simp -dsimp only [↓reduceIte, go_sem, hq]
    refine rdig_c hR fun s hR => ?_
    have h2 := hR.f (k, _) (List.mem_cons_self ..)
    have c2 := cellAt_known h2.2
    have hkl := (List.getElem?_eq_some_iff.1 h2.2).1
    repeat' (first | (simp -dsimp only [↓reduceIte, go_sem, hq, c2, h2.2, set_set, cellAt_setS, objs_setS, hkl]) | (refine arr_intro fun _ => ?_) | (refine later_intro ⟨keeps_nil, ?_⟩) | (refine later_intro ⟨keeps_refl, ?_⟩) | (with_reducible refine keeps_go ?_ ?_; focus (first | (simp [keeps_cons, keeps_none, objs_app, objs_app0]; done) | (simp only [keeps_cons, keeps_none, objs_app0, objs_app, and_true]; first | rfl | exact ⟨rfl, rfl⟩ | exact ⟨rfl, rfl, rfl⟩))) | (with_reducible refine (And.intro (a := keeps _ _ _) ?_ ?_); focus (first | (simp [keeps_cons, keeps_none, objs_app, objs_app0]; done) | (simp only [keeps_cons, keeps_none, objs_app0, objs_app, and_true]; first | rfl | exact ⟨rfl, rfl⟩ | exact ⟨rfl, rfl, rfl⟩))) | (refine both_ways ?_ ?_) | (rw [wrap_i64 (by omega) (by omega)]) | (refine guardV_split (fun h => ?_) (fun h => ?_) <;> (try rw [h]) <;> (try simp at h) <;> (try (exfalso; omega))))
    exact hK _ T t u (hR.upd hk hF)
  · have e : r.fields m = ((⟨m.kind, m.client, m.sub, m.rep, m.view, m.by_, m.tag, r.dig.1, m.blob, m.nums⟩ : Msg), r.dig.2) := by simp [Rdr.fields, hq]
    rw [e, hq] at hK
    simp -dsimp only [↓reduceIte, go_sem, hq]
    refine rdig_c hR fun s hR => ?_
    have h2 := hR.f (k, _) (List.mem_cons_self ..)
    have c2 := cellAt_known h2.2
    have hkl := (List.getElem?_eq_some_iff.1 h2.2).1
    repeat' (first | (simp -dsimp only [↓reduceIte, go_sem, hq, c2, h2.2, set_set, cellAt_setS, objs_setS, hkl]) | (refine arr_intro fun _ => ?_) | (refine later_intro ⟨keeps_nil, ?_⟩) | (refine later_intro ⟨keeps_refl, ?_⟩) | (with_reducible refine keeps_go ?_ ?_; focus (first | (simp [keeps_cons, keeps_none, objs_app, objs_app0]; done) | (simp only [keeps_cons, keeps_none, objs_app0, objs_app, and_true]; first | rfl | exact ⟨rfl, rfl⟩ | exact ⟨rfl, rfl, rfl⟩))) | (with_reducible refine (And.intro (a := keeps _ _ _) ?_ ?_); focus (first | (simp [keeps_cons, keeps_none, objs_app, objs_app0]; done) | (simp only [keeps_cons, keeps_none, objs_app0, objs_app, and_true]; first | rfl | exact ⟨rfl, rfl⟩ | exact ⟨rfl, rfl, rfl⟩))) | (refine both_ways ?_ ?_) | (rw [wrap_i64 (by omega) (by omega)]) | (refine guardV_split (fun h => ?_) (fun h => ?_) <;> (try rw [h]) <;> (try simp at h) <;> (try (exfalso; omega))))
    exact hK _ T t u (hR.upd hk hF)
  · have e : r.fields m = (m, r) := by simp [Rdr.fields, hq]
    rw [e] at hK
    repeat' (first | (simp -dsimp only [↓reduceIte, go_sem, hq, c0]) | (refine arr_intro fun _ => ?_) | (refine later_intro ⟨keeps_nil, ?_⟩) | (refine later_intro ⟨keeps_refl, ?_⟩) | (with_reducible refine keeps_go ?_ ?_; focus (first | (simp [keeps_cons, keeps_none, objs_app, objs_app0]; done) | (simp only [keeps_cons, keeps_none, objs_app0, objs_app, and_true]; first | rfl | exact ⟨rfl, rfl⟩ | exact ⟨rfl, rfl, rfl⟩))) | (with_reducible refine (And.intro (a := keeps _ _ _) ?_ ?_); focus (first | (simp [keeps_cons, keeps_none, objs_app, objs_app0]; done) | (simp only [keeps_cons, keeps_none, objs_app0, objs_app, and_true]; first | rfl | exact ⟨rfl, rfl⟩ | exact ⟨rfl, rfl, rfl⟩))) | (refine both_ways ?_ ?_) | (rw [wrap_i64 (by omega) (by omega)]) | (refine guardV_split (fun h => ?_) (fun h => ?_) <;> (try rw [h]) <;> (try simp at h) <;> (try (exfalso; omega))))
    exact hK _ T t u hR
end Go.Aff.L10

/- Layer 10, walked: Get. -/
-- cuts
namespace Go.Aff.L10
open Go.Proofs Go.Aff Go.Aff.L01 Classical
set_option linter.unusedVariables false
set_option linter.unusedSimpArgs false
set_option maxRecDepth 20000
attribute [local go_sem] push_app app_app length_app cellAt_app cellAt_app0 set_app set_app0 objs_app objs_app0 List.cons_append List.nil_append List.length_cons List.length_nil List.getElem?_cons_zero List.getElem?_cons_succ List.set_cons_zero List.set_cons_succ List.length_map
attribute [-go_sem] cellAt_new
attribute [-simp] List.length_flatMap
attribute [local go_sem] Try.underlying3 Try.underlying4 Try.underlying5 Try.underlying9 Try.underlying36 Try.underlying37 Try.underlying42 Try.underlying45 Try.underlying31 Try.underlying61 subPs_0 subAt_0 subSet_0 subPs_1 subAt_1 subSet_1 subPs_2 subAt_2 subSet_2 subPs_3 subAt_3 subSet_3 subPs_4 subAt_4 subSet_4 subPs_5 subAt_5 subSet_5 sizes_sub shapes_sub fits_sub zero_sub zt_sub built_sub Try.underlying41 pendPs_0 pendAt_0 pendSet_0 pendPs_1 pendAt_1 pendSet_1 pendPs_2 pendAt_2 pendSet_2 pendPs_3 pendAt_3 pendSet_3 pendPs_4 pendAt_4 pendSet_4 pendPs_5 pendAt_5 pendSet_5 sizes_pend shapes_pend fits_pend zero_pend zt_pend built_pend Try.underlying92 repPs_0 repAt_0 repSet_0 repPs_1 repAt_1 repSet_1 repPs_2 repAt_2 repSet_2 repPs_3 repAt_3 repSet_3 repPs_4 repAt_4 repSet_4 repPs_5 repAt_5 repSet_5 repPs_6 repAt_6 repSet_6 repPs_7 repAt_7 repSet_7 repPs_8 repAt_8 repSet_8 repPs_9 repAt_9 repSet_9 sizes_rep shapes_rep fits_rep zero_rep zt_rep built_rep Try.underlying44 blobPs_0 blobAt_0 blobSet_0 blobPs_1 blobAt_1 blobSet_1 blobPs_2 blobAt_2 blobSet_2 blobPs_3 blobAt_3 blobSet_3 sizes_blob shapes_blob fits_blob zero_blob zt_blob built_blob Try.underlying39 msgPs_0 msgAt_0 msgSet_0 msgPs_1 msgAt_1 msgSet_1 msgPs_2 msgAt_2 msgSet_2 msgPs_3 msgAt_3 msgSet_3 msgPs_4 msgAt_4 msgSet_4 msgPs_5 msgAt_5 msgSet_5 msgPs_6 msgAt_6 msgSet_6 msgPs_7 msgAt_7 msgSet_7 msgPs_8 msgAt_8 msgSet_8 msgPs_9 msgAt_9 msgSet_9 sizes_msg shapes_msg fits_msg zero_msg zt_msg built_msg Try.underlying47 at_Ps_0 at_Set_0 at_Ps_1 at_Set_1 sizes_at_ shapes_at_
attribute [local go_sem] fits3 fits4 fits5 fits9 fits23 fits26 fits31 fits34 fits52 zt3 zero3 zt34 zero34 zt23 zero23 bin_sub_eql bin_pend_eql bin_pend_neq bin_blob_eql bin_dig23_eql bin_dig23_neq slice23
attribute [local go_sem ↓] blockQ_exit2
attribute [local simp] dig_ext
attribute [local go_sem] rdrPs_0 rdrAt_0 rdrSet_0 rdrPs_1 rdrAt_1 rdrSet_1 rdrPs_2 rdrAt_2 rdrSet_2 sizes_rdr shapes_rdr fits_rdr zero_rdr zt_rdr built_rdr Try.underlying71 Try.underlying69 Try.underlying75 bin_bool_ne appc appn built23
attribute [local go_sem] msgSet_9s slV_eq
noncomputable section
def getA (s : List UInt8) : Int × Rdr := let a := (Rdr.mk s 0 0).int; (a.1, if a.2.e = 0 ∧ ¬ In 1 11 a.1 then { a.2 with e := 6 } else a.2)
def getB (x : Int × Rdr) : Int × Rdr := if x.1 = 2 ∨ x.1 = 4 ∨ x.1 = 6 then (0, x.2) else x.2.int
def getM (n c : Int) : Msg := ⟨n, c, sub0, rep0, [], 0, dig0, dig0, blob0, []⟩
def getC (s : List UInt8) : Msg × Rdr := (getB (getA s)).2.fields (getM (getA s).1 (getB (getA s)).1)
def getR (s : List UInt8) : Msg × Int :=
  if (getC s).2.e ≠ 0 then (msg0, (getC s).2.e) else if (getC s).2.at_ < s.length ∨ ¬ (getC s).1.Ok then (msg0, 6) else ((getC s).1, 0)
end
theorem get_c {l : List UInt8} {σ : AST} {K : AV → AST → Prop} (hK : ∀ t u, K (.tuple [msgV t u (getR l).1, .int .i64 (getR l).2]) σ) : TCalls Try.prog 10 [.str l] σ K := by
  refine TCalls.drop ?_
  refine tcalls_walk Try.f10 _ [.cell 2 47, .tmp 3] Try.func10 rfl rfl rfl mixed (Nat.le_of_ble_eq_true rfl) rfl fun hlen => ?_
  have hll : l.length ≤ 9223372036854775807 := hlen (.str l) (by simp)
  simp -dsimp only [↓reduceIte, go_sem]
  generalize hk0 : σ.objs.length = k0
  have hR : RF σ (σ.app [.cells (msgV .full .full msg0), .cells (rdrV ⟨l, 0, 0⟩)]) σ.toks (k0 + 1) ⟨l, 0, 0⟩ [(k0, .cells (msgV .full .full msg0))] := by
    refine ⟨Ext.app _ _, rfl, by omega, ?_, ?_, fun _ => ⟨by simp, by simp⟩, hll⟩
    · subst hk0; simp [AST.app]
    · subst hk0; simp [AST.app]
  generalize hj : k0 + 1 = j at hR
  refine int_c hR fun s hR => ?_
  repeat' (first | (simp -dsimp only [↓reduceIte, go_sem, hj]) | (refine arr_intro fun _ => ?_) | (refine later_intro ⟨keeps_nil, ?_⟩) | (refine later_intro ⟨keeps_refl, ?_⟩) | (with_reducible refine keeps_go ?_ ?_; focus (first | (simp [keeps_cons, keeps_none, objs_app, objs_app0]; done) | (simp only [keeps_cons, keeps_none, objs_app0, objs_app, and_true]; first | rfl | exact ⟨rfl, rfl⟩ | exact ⟨rfl, rfl, rfl⟩))) | (with_reducible refine (And.intro (a := keeps _ _ _) ?_ ?_); focus (first | (simp [keeps_cons, keeps_none, objs_app, objs_app0]; done) | (simp only [keeps_cons, keeps_none, objs_app0, objs_app, and_true]; first | rfl | exact ⟨rfl, rfl⟩ | exact ⟨rfl, rfl, rfl⟩))) | (refine both_ways ?_ ?_) | (rw [wrap_i64 (by omega) (by omega)]) | (refine guardV_split (fun h => ?_) (fun h => ?_) <;> (try rw [h]) <;> (try simp at h) <;> (try (exfalso; omega))))
  have hR := hR.push (o := .cells (msgV .full .full ⟨(Rdr.mk l 0 0).int.1, msg0.client, msg0.sub, msg0.rep, msg0.view, msg0.by_, msg0.tag, msg0.own, msg0.blob, msg0.nums⟩))
  have hA1 : (getA l).1 = (Rdr.mk l 0 0).int.1 := rfl
  have hA2 : (getA l).2 = if (Rdr.mk l 0 0).int.2.e = 0 ∧ ¬ In 1 11 (Rdr.mk l 0 0).int.1 then { (Rdr.mk l 0 0).int.2 with e := 6 } else (Rdr.mk l 0 0).int.2 := rfl
  generalize (Rdr.mk l 0 0).int = A at *
  have hle1 := hR.le
  have hF := hR.lt
  have hF1 : ∀ x ∈ [(k0, AObj.cells (msgV .full .full msg0))], x.1 ≠ s.objs.length := by
    intro x hx
    have := (List.getElem?_eq_some_iff.1 (hR.f x (List.mem_cons_of_mem _ hx)).2).1
    have h3 := ‹RF σ s σ.toks j A.2 [(k0, AObj.cells (msgV .full .full msg0))]›.lt x hx
    exact h3
  have hle1 : σ.objs.length ≤ s.objs.length := ‹RF σ s σ.toks j A.2 [(k0, AObj.cells (msgV .full .full msg0))]›.le
  generalize hk1 : s.objs.length = k1 at hR hF1 hle1
  clear hF
  have c := cellAt_known hR.o
  have ho := hR.o
  have h2 := hR.f (k1, _) (List.mem_cons_self ..)
  have c2 := cellAt_known h2.2
  have nj := h2.1.symm
  dsimp only at nj
  repeat' (first | (simp -dsimp only [↓reduceIte, go_sem, hk1, c, ho, c2, cellAt_setN, nj]) | (refine arr_intro fun _ => ?_) | (refine later_intro ⟨keeps_nil, ?_⟩) | (refine later_intro ⟨keeps_refl, ?_⟩) | (with_reducible refine keeps_go ?_ ?_; focus (first | (simp [keeps_cons, keeps_none, objs_app, objs_app0]; done) | (simp only [keeps_cons, keeps_none, objs_app0, objs_app, and_true]; first | rfl | exact ⟨rfl, rfl⟩ | exact ⟨rfl, rfl, rfl⟩))) | (with_reducible refine (And.intro (a := keeps _ _ _) ?_ ?_); focus (first | (simp [keeps_cons, keeps_none, objs_app, objs_app0]; done) | (simp only [keeps_cons, keeps_none, objs_app0, objs_app, and_true]; first | rfl | exact ⟨rfl, rfl⟩ | exact ⟨rfl, rfl, rfl⟩))) | (refine both_ways ?_ ?_) | (rw [wrap_i64 (by omega) (by omega)]) | (refine guardV_split (fun h => ?_) (fun h => ?_) <;> (try rw [h]) <;> (try simp at h) <;> (try (exfalso; omega))) | (refine within_c ?_))
  all_goals
    obtain ⟨r1, h1, hR⟩ : ∃ r1, r1 = (getA l).2 ∧ RF σ _ σ.toks j r1 [(k1, .cells (msgV .full .full (getM A.1 0))), (k0, .cells (msgV .full .full msg0))] := by
      refine ⟨_, hA2.symm, ?_⟩
      first
        | (rw [if_pos ⟨‹_›, ‹_›⟩]; exact hR.err (by decide))
        | (rw [if_neg (fun h => by simp_all)]; exact hR)
  all_goals
    clear c ho h2 c2
    first
      | refine rfields_c hR hle1 hF1 fun s T' t u hR => ?_
      | (refine int_c hR fun s hR => ?_
         have h2 := hR.f (k1, _) (List.mem_cons_self ..)
         have c2 := cellAt_known h2.2
         have hkl := (List.getElem?_eq_some_iff.1 h2.2).1
         repeat' (first | (simp -dsimp only [↓reduceIte, go_sem, c2, h2.2, cellAt_setS, objs_setS, hkl, hj]) | (refine arr_intro fun _ => ?_) | (refine later_intro ⟨keeps_nil, ?_⟩) | (refine later_intro ⟨keeps_refl, ?_⟩) | (with_reducible refine keeps_go ?_ ?_; focus (first | (simp [keeps_cons, keeps_none, objs_app, objs_app0]; done) | (simp only [keeps_cons, keeps_none, objs_app0, objs_app, and_true]; first | rfl | exact ⟨rfl, rfl⟩ | exact ⟨rfl, rfl, rfl⟩))) | (with_reducible refine (And.intro (a := keeps _ _ _) ?_ ?_); focus (first | (simp [keeps_cons, keeps_none, objs_app, objs_app0]; done) | (simp only [keeps_cons, keeps_none, objs_app0, objs_app, and_true]; first | rfl | exact ⟨rfl, rfl⟩ | exact ⟨rfl, rfl, rfl⟩))) | (refine both_ways ?_ ?_) | (rw [wrap_i64 (by omega) (by omega)]) | (refine guardV_split (fun h => ?_) (fun h => ?_) <;> (try rw [h]) <;> (try simp at h) <;> (try (exfalso; omega))))
         have hR := hR.upd (o' := .cells (msgV .full .full (getM A.1 r1.int.1))) hle1 hF1
         refine rfields_c hR hle1 hF1 fun s T' t u hR => ?_)
  all_goals
    obtain ⟨m3, r3, e3, hR⟩ : ∃ m3 r3, getC l = (m3, r3) ∧ RF σ s T' j r3 [(k1, .cells (msgV t u m3)), (k0, .cells (msgV .full .full msg0))] := ⟨_, _, by simp only [getC, getB, hA1, ← h1]; simp [*], hR⟩
    have c := cellAt_known hR.o
    have h2 := hR.f (k1, .cells (msgV t u m3)) (by simp)
    have h0 := hR.f (k0, .cells (msgV .full .full msg0)) (by simp)
    dsimp only at h2 h0
    have c2 := cellAt_known h2.2
    have hkl := (List.getElem?_eq_some_iff.1 h0.2).1
    have n0 := h0.1.symm
    have n1 : k0 ≠ k1 := hF1 (k0, .cells (msgV .full .full msg0)) (by simp)
    have fin : ∀ (v : AV) t u, v = .tuple [msgV t u (getR l).1, .int .i64 (getR l).2] → Ext σ (s.set k0 (.cells (msgV t u (getR l).1))) ∧ v.noRef = true ∧ K v.strip σ := fun v t u hv => by
      subst hv
      refine ⟨hR.x.set (by omega), ?_, ?_⟩
      · simp [AV.noRef, AV.noRefs, msgPs, repPs, subPs, blobPs, noRefs_pends, noRefs_ints]
      · simp only [AV.strip, AV.strips, msg_strips]; exact hK _ _
    clear hK
    by_cases he : r3.e = 0
    · by_cases hat : r3.at_ < l.length
      · have e4 : getR l = (msg0, 6) := by simp only [getR, e3]; simp [he, hat]
        rw [e4] at fin
        repeat' (first | (simp -dsimp only [↓reduceIte, go_sem, hk1, hj, c, c2, h0.2, h2.2, he, hat, cellAt_setS, cellAt_setN, objs_setS, objs_setN, hkl, n0, n1]) | (refine arr_intro fun _ => ?_) | (refine later_intro ⟨keeps_nil, ?_⟩) | (refine later_intro ⟨keeps_refl, ?_⟩) | (with_reducible refine keeps_go ?_ ?_; focus (first | (simp [keeps_cons, keeps_none, objs_app, objs_app0]; done) | (simp only [keeps_cons, keeps_none, objs_app0, objs_app, and_true]; first | rfl | exact ⟨rfl, rfl⟩ | exact ⟨rfl, rfl, rfl⟩))) | (with_reducible refine (And.intro (a := keeps _ _ _) ?_ ?_); focus (first | (simp [keeps_cons, keeps_none, objs_app, objs_app0]; done) | (simp only [keeps_cons, keeps_none, objs_app0, objs_app, and_true]; first | rfl | exact ⟨rfl, rfl⟩ | exact ⟨rfl, rfl, rfl⟩))) | (refine both_ways ?_ ?_) | (rw [wrap_i64 (by omega) (by omega)]) | (refine guardV_split (fun h => ?_) (fun h => ?_) <;> (try rw [h]) <;> (try simp at h) <;> (try (exfalso; omega))) | (with_reducible refine awp_drawT (id := 9) (.op 0 2 (.op 1 0 (.op 2 0 (.op 3 0 (.op 4 0 (.op 5 1 (.op 6 2 .nil))))))) (by kernel_rfl) ?_))
        exact fin _ .full .full rfl
      · by_cases hm : m3.Ok
        · have e4 : getR l = (m3, 0) := by simp only [getR, e3]; simp [he, hat, hm]
          rw [e4] at fin
          repeat' (first | (simp -dsimp only [↓reduceIte, go_sem, hk1, hj, c, c2, h0.2, h2.2, he, hat, hm, cellAt_setS, cellAt_setN, objs_setS, objs_setN, hkl, n0, n1]) | (refine arr_intro fun _ => ?_) | (refine later_intro ⟨keeps_nil, ?_⟩) | (refine later_intro ⟨keeps_refl, ?_⟩) | (with_reducible refine keeps_go ?_ ?_; focus (first | (simp [keeps_cons, keeps_none, objs_app, objs_app0]; done) | (simp only [keeps_cons, keeps_none, objs_app0, objs_app, and_true]; first | rfl | exact ⟨rfl, rfl⟩ | exact ⟨rfl, rfl, rfl⟩))) | (with_reducible refine (And.intro (a := keeps _ _ _) ?_ ?_); focus (first | (simp [keeps_cons, keeps_none, objs_app, objs_app0]; done) | (simp only [keeps_cons, keeps_none, objs_app0, objs_app, and_true]; first | rfl | exact ⟨rfl, rfl⟩ | exact ⟨rfl, rfl, rfl⟩))) | (refine both_ways ?_ ?_) | (rw [wrap_i64 (by omega) (by omega)]) | (refine guardV_split (fun h => ?_) (fun h => ?_) <;> (try rw [h]) <;> (try simp at h) <;> (try (exfalso; omega))) | (with_reducible refine awp_drawT (id := 9) (.op 0 2 (.op 1 0 (.op 2 0 (.op 3 0 (.op 4 0 (.op 5 1 (.op 6 2 .nil))))))) (by kernel_rfl) ?_) | (refine right_c ?_))
          exact fin _ t u rfl
        · have e4 : getR l = (msg0, 6) := by simp only [getR, e3]; simp [he, hat, hm]
          rw [e4] at fin
          repeat' (first | (simp -dsimp only [↓reduceIte, go_sem, hk1, hj, c, c2, h0.2, h2.2, he, hat, hm, cellAt_setS, cellAt_setN, objs_setS, objs_setN, hkl, n0, n1]) | (refine arr_intro fun _ => ?_) | (refine later_intro ⟨keeps_nil, ?_⟩) | (refine later_intro ⟨keeps_refl, ?_⟩) | (with_reducible refine keeps_go ?_ ?_; focus (first | (simp [keeps_cons, keeps_none, objs_app, objs_app0]; done) | (simp only [keeps_cons, keeps_none, objs_app0, objs_app, and_true]; first | rfl | exact ⟨rfl, rfl⟩ | exact ⟨rfl, rfl, rfl⟩))) | (with_reducible refine (And.intro (a := keeps _ _ _) ?_ ?_); focus (first | (simp [keeps_cons, keeps_none, objs_app, objs_app0]; done) | (simp only [keeps_cons, keeps_none, objs_app0, objs_app, and_true]; first | rfl | exact ⟨rfl, rfl⟩ | exact ⟨rfl, rfl, rfl⟩))) | (refine both_ways ?_ ?_) | (rw [wrap_i64 (by omega) (by omega)]) | (refine guardV_split (fun h => ?_) (fun h => ?_) <;> (try rw [h]) <;> (try simp at h) <;> (try (exfalso; omega))) | (with_reducible refine awp_drawT (id := 9) (.op 0 2 (.op 1 0 (.op 2 0 (.op 3 0 (.op 4 0 (.op 5 1 (.op 6 2 .nil))))))) (by kernel_rfl) ?_) | (refine right_c ?_))
          exact fin _ .full .full rfl
    · have e4 : getR l = (msg0, r3.e) := by simp only [getR, e3]; simp [he]
      rw [e4] at fin
      repeat' (first | (simp -dsimp only [↓reduceIte, go_sem, hk1, hj, c, c2, h0.2, h2.2, he, cellAt_setS, cellAt_setN, objs_setS, objs_setN, hkl, n0, n1]) | (refine arr_intro fun _ => ?_) | (refine later_intro ⟨keeps_nil, ?_⟩) | (refine later_intro ⟨keeps_refl, ?_⟩) | (with_reducible refine keeps_go ?_ ?_; focus (first | (simp [keeps_cons, keeps_none, objs_app, objs_app0]; done) | (simp only [keeps_cons, keeps_none, objs_app0, objs_app, and_true]; first | rfl | exact ⟨rfl, rfl⟩ | exact ⟨rfl, rfl, rfl⟩))) | (with_reducible refine (And.intro (a := keeps _ _ _) ?_ ?_); focus (first | (simp [keeps_cons, keeps_none, objs_app, objs_app0]; done) | (simp only [keeps_cons, keeps_none, objs_app0, objs_app, and_true]; first | rfl | exact ⟨rfl, rfl⟩ | exact ⟨rfl, rfl, rfl⟩))) | (refine both_ways ?_ ?_) | (rw [wrap_i64 (by omega) (by omega)]) | (refine guardV_split (fun h => ?_) (fun h => ?_) <;> (try rw [h]) <;> (try simp at h) <;> (try (exfalso; omega))) | (with_reducible refine awp_drawT (id := 9) (.op 0 2 (.op 1 0 (.op 2 0 (.op 3 0 (.op 4 0 (.op 5 1 (.op 6 2 .nil))))))) (by kernel_rfl) ?_))
      refine ⟨?_, fin _ .full .full rfl⟩
      simp [keeps_cons, keeps_none, objs_setN h0.1]
end Go.Aff.L10

