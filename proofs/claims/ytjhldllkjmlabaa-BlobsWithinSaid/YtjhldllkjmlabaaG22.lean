import Derived.Test.YtjhldllkjmlabaaG21

set_option linter.unusedSimpArgs false
set_option linter.unusedVariables false

/- Layer 11, walked: New, Used, Get. -/
-- cuts
namespace Go.Aff.L10
open Go.Proofs Go.Aff Go.Aff.L01 Classical
set_option linter.unusedVariables false
set_option linter.unusedSimpArgs false
set_option maxRecDepth 20000
attribute [local go_sem] push_app app_app length_app cellAt_app cellAt_app0 set_app set_app0 objs_app objs_app0 List.cons_append List.nil_append List.length_cons List.length_nil List.getElem?_cons_zero List.getElem?_cons_succ List.set_cons_zero List.set_cons_succ List.length_map
attribute [-go_sem] cellAt_new
attribute [-simp] List.length_flatMap
attribute [local go_sem] Try.underlying3 Try.underlying4 Try.underlying5 Try.underlying9 Try.underlying24 Try.underlying43 Try.underlying37 Try.underlying22 Try.underlying32 blobPs_0 blobAt_0 blobSet_0 blobPs_1 blobAt_1 blobSet_1 blobPs_2 blobAt_2 blobSet_2 blobPs_3 blobAt_3 blobSet_3 sizes_blob shapes_blob fits_blob zero_blob zt_blob built_blob Try.underlying26 bkeyPs_0 bkeyAt_0 bkeySet_0 bkeyPs_1 bkeyAt_1 bkeySet_1 sizes_bkey shapes_bkey fits_bkey zero_bkey zt_bkey built_bkey Try.underlying56 rstPs_0 rstAt_0 rstSet_0 sizes_rst shapes_rst fits_rst zero_rst zt_rst built_rst Try.underlying45 actPs_0 actAt_0 actSet_0 actPs_1 actAt_1 actSet_1 actPs_2 actAt_2 actSet_2 actPs_3 actAt_3 actSet_3 actPs_4 actAt_4 actSet_4 sizes_act shapes_act fits_act zero_act zt_act built_act Try.underlying42
attribute [local go_sem] fits3 fits4 fits5 fits9 fits23 fits26 fits31 fits34 zt3 zero3 bin_blob_eql bin_blob_neq
attribute [local go_sem ↓] blockQ_exit2
attribute [local simp] dig_ext
attribute [local go_sem] fits58 stAt zero60 zt60 built60 fits60 shape_mp Try.underlying58 Try.underlying60 Try.underlying27 Try.underlying28
theorem snew_c {σ : AST} {K : AV → AST → Prop} (hK : ∀ s' j mi, SF σ s' j mi [] [] → K (.ptr (some (j, []))) s') : TCalls Try.prog 15 [] σ K := by
  refine tcalls_walk Try.f15 _ [.tmp 0] Try.func15 rfl rfl rfl mixed (Nat.le_of_ble_eq_true rfl) rfl fun hlen => ?_
  repeat' (first | (simp -dsimp only [↓reduceIte, go_sem]) | (refine arr_intro fun _ => ?_) | (refine later_intro ⟨keeps_nil, ?_⟩) | (refine later_intro ⟨keeps_refl, ?_⟩) | (with_reducible refine keeps_go ?_ ?_; focus (first | (simp [keeps_cons, keeps_none, objs_app, objs_app0]; done) | (simp only [keeps_cons, keeps_none, objs_app0, objs_app, and_true]; first | rfl | exact ⟨rfl, rfl⟩ | exact ⟨rfl, rfl, rfl⟩))) | (with_reducible refine (And.intro (a := keeps _ _ _) ?_ ?_); focus (first | (simp [keeps_cons, keeps_none, objs_app, objs_app0]; done) | (simp only [keeps_cons, keeps_none, objs_app0, objs_app, and_true]; first | rfl | exact ⟨rfl, rfl⟩ | exact ⟨rfl, rfl, rfl⟩))) | (refine both_ways ?_ ?_) | (rw [wrap_i64 (by omega) (by omega)]) | (refine guardV_split (fun h => ?_) (fun h => ?_) <;> (try rw [h]) <;> (try simp at h) <;> (try (exfalso; omega))))
  refine hK _ (σ.objs.length + 1) σ.objs.length ⟨Ext.app _ _, by omega, by omega, by omega, by rw [objs_app]; rfl, ⟨[], 0, rfl, by rw [objs_app0]; rfl, by simp, by simp⟩, by simp⟩
theorem usedB_le {L : List Blob} {o : Int} (h : ∀ b ∈ L, b.Rt) : usedB L o ≤ L.length * 4096 := by
  induction L with
  | nil => simp [usedB]
  | cons b L ih =>
    have h1 := ih fun x hx => h x (List.mem_cons_of_mem _ hx)
    have h2 := (h b (List.mem_cons_self ..)).2.2.2.2
    have e : usedB (b :: L) o = lenOf o b + usedB L o := by simp [usedB]
    have h3 : lenOf o b ≤ b.cipher.length := by unfold lenOf; split <;> omega
    rw [e, List.length_cons]; omega
theorem usedN_le {L : List Blob} {o : Int} : usedN L o ≤ L.length := List.countP_le_length
section
variable {σ0 s : AST} {j mi : Nat} {B : List Blob} {F : List (Nat × AObj)} {K : AV → AST → Prop}
theorem sused_nil {σ : AST} {o : Int} {K : AV → AST → Prop} (hK : K (.tuple [.int .i64 0, .int .i64 0]) σ) : TCalls Try.prog 16 [.ptr none, .int .i64 o] σ K := by
  refine tcalls_walk Try.f16 _ [.tmp 4, .tmp 5] Try.func16 rfl rfl rfl mixed (Nat.le_of_ble_eq_true rfl) rfl fun hlen => ?_
  repeat' (first | (simp -dsimp only [↓reduceIte, go_sem]) | (refine arr_intro fun _ => ?_) | (refine later_intro ⟨keeps_nil, ?_⟩) | (refine later_intro ⟨keeps_refl, ?_⟩) | (with_reducible refine keeps_go ?_ ?_; focus (first | (simp [keeps_cons, keeps_none, objs_app, objs_app0]; done) | (simp only [keeps_cons, keeps_none, objs_app0, objs_app, and_true]; first | rfl | exact ⟨rfl, rfl⟩ | exact ⟨rfl, rfl, rfl⟩))) | (with_reducible refine (And.intro (a := keeps _ _ _) ?_ ?_); focus (first | (simp [keeps_cons, keeps_none, objs_app, objs_app0]; done) | (simp only [keeps_cons, keeps_none, objs_app0, objs_app, and_true]; first | rfl | exact ⟨rfl, rfl⟩ | exact ⟨rfl, rfl, rfl⟩))) | (refine both_ways ?_ ?_) | (rw [wrap_i64 (by omega) (by omega)]) | (refine guardV_split (fun h => ?_) (fun h => ?_) <;> (try rw [h]) <;> (try simp at h) <;> (try (exfalso; omega))))
  exact hK
theorem sused_c (h : SF σ0 s j mi B F) (hB : BOk B) {o : Int} (hK : ∀ s', Ext s s' → K (.tuple [.int .i64 (usedN B o : Nat), .int .i64 (usedB B o : Nat)]) s') : TCalls Try.prog 16 [.ptr (some (j, [])), .int .i64 o] s K := by
  obtain ⟨E, ck, rfl, hm, hck, hnd⟩ := h.om
  have cj := cellAt_known h.o
  have hlt := h.lt
  refine tcalls_walk Try.f16 _ [.tmp 4, .tmp 5] Try.func16 rfl rfl rfl mixed (Nat.le_of_ble_eq_true rfl) rfl fun hlen => ?_
  repeat' (first | (simp -dsimp only [↓reduceIte, go_sem, cj]) | (refine arr_intro fun _ => ?_) | (refine later_intro ⟨keeps_nil, ?_⟩) | (refine later_intro ⟨keeps_refl, ?_⟩) | (with_reducible refine keeps_go ?_ ?_; focus (first | (simp [keeps_cons, keeps_none, objs_app, objs_app0]; done) | (simp only [keeps_cons, keeps_none, objs_app0, objs_app, and_true]; first | rfl | exact ⟨rfl, rfl⟩ | exact ⟨rfl, rfl, rfl⟩))) | (with_reducible refine (And.intro (a := keeps _ _ _) ?_ ?_); focus (first | (simp [keeps_cons, keeps_none, objs_app, objs_app0]; done) | (simp only [keeps_cons, keeps_none, objs_app0, objs_app, and_true]; first | rfl | exact ⟨rfl, rfl⟩ | exact ⟨rfl, rfl, rfl⟩))) | (refine both_ways ?_ ?_) | (rw [wrap_i64 (by omega) (by omega)]) | (refine guardV_split (fun h => ?_) (fun h => ?_) <;> (try rw [h]) <;> (try simp at h) <;> (try (exfalso; omega))))
  refine ⟨⟨56, 26, Try.underlying58⟩, ?_⟩
  simp only [hm]
  intro l b
  repeat' (first | (simp -dsimp only [↓reduceIte, go_sem]) | (refine arr_intro fun _ => ?_) | (refine later_intro ⟨keeps_nil, ?_⟩) | (refine later_intro ⟨keeps_refl, ?_⟩) | (with_reducible refine keeps_go ?_ ?_; focus (first | (simp [keeps_cons, keeps_none, objs_app, objs_app0]; done) | (simp only [keeps_cons, keeps_none, objs_app0, objs_app, and_true]; first | rfl | exact ⟨rfl, rfl⟩ | exact ⟨rfl, rfl, rfl⟩))) | (with_reducible refine (And.intro (a := keeps _ _ _) ?_ ?_); focus (first | (simp [keeps_cons, keeps_none, objs_app, objs_app0]; done) | (simp only [keeps_cons, keeps_none, objs_app0, objs_app, and_true]; first | rfl | exact ⟨rfl, rfl⟩ | exact ⟨rfl, rfl, rfl⟩))) | (refine both_ways ?_ ?_) | (rw [wrap_i64 (by omega) (by omega)]) | (refine guardV_split (fun h => ?_) (fun h => ?_) <;> (try rw [h]) <;> (try simp at h) <;> (try (exfalso; omega))))
  have hlen : E.length ≤ 2048 := by have := hB.len; rwa [List.length_map] at this
  have hck' : ∀ e ∈ E.map entB, e.1 < ck := fun e he => by obtain ⟨x, hx, rfl⟩ := List.mem_map.1 he; exact hck x hx
  refine awp_rounds (fun (i : Nat) τ s' => ∃ (D : List (Nat × Blob)) (last : Nat), D.length = i ∧ Met E D ∧ ck ≤ last ∧ Ext s s' ∧ s'.objs[s.objs.length]? = some (iterO l b mi ck (D.map (·.1)).toArray last) ∧ τ 1 = .int .i64 o ∧ τ 6 = .int .i64 (usedN (D.map (·.2)) o : Nat) ∧ τ 7 = .int .i64 (usedB (D.map (·.2)) o : Nat) ∧ τ 16 = .ptr (some (s.objs.length, []))) (fun i => E.length - i) 0 ?_ ?_
  · refine ⟨[], ck, rfl, ⟨by simp, by simp⟩, Nat.le_refl _, Ext.app _ _, by rw [objs_app0]; rfl, ?_, ?_, ?_, ?_⟩ <;> (try simp only [go_sem]) <;> (try rfl)
  · rintro i τ s' ⟨D, last, hDl, hD, hla, hx, hit, t1, t6, t7, t16⟩
    have hm' := ext_knownB hx hm
    have hDlen := hD.len
    repeat' (first | (simp -dsimp only [↓reduceIte, go_sem, t1, t6, t7, t16]) | (refine arr_intro fun _ => ?_) | (refine later_intro ⟨keeps_nil, ?_⟩) | (refine later_intro ⟨keeps_refl, ?_⟩) | (with_reducible refine keeps_go ?_ ?_; focus (first | (simp [keeps_cons, keeps_none, objs_app, objs_app0]; done) | (simp only [keeps_cons, keeps_none, objs_app0, objs_app, and_true]; first | rfl | exact ⟨rfl, rfl⟩ | exact ⟨rfl, rfl, rfl⟩))) | (with_reducible refine (And.intro (a := keeps _ _ _) ?_ ?_); focus (first | (simp [keeps_cons, keeps_none, objs_app, objs_app0]; done) | (simp only [keeps_cons, keeps_none, objs_app0, objs_app, and_true]; first | rfl | exact ⟨rfl, rfl⟩ | exact ⟨rfl, rfl, rfl⟩))) | (refine both_ways ?_ ?_) | (rw [wrap_i64 (by omega) (by omega)]) | (refine guardV_split (fun h => ?_) (fun h => ?_) <;> (try rw [h]) <;> (try simp at h) <;> (try (exfalso; omega))))
    refine ⟨rfl, s.objs.length, l, b, mi, ck, _, last, _, _, rfl, hit, hm', hck', hla, fun e he hne => ?_, fun hall => ?_⟩
    · obtain ⟨e, he0, rfl⟩ := List.mem_map.1 he
      have hne' : ¬ e.1 ∈ D.map (·.1) := by simpa [entB] using hne
      have hD' := hD.add he0 hne'
      have hl2 := hD'.len
      rw [List.length_append] at hl2
      simp only [List.length_singleton] at hl2
      have hil := cell_ltB hit
      have oit : ∀ l, ((s'.set s.objs.length (iterO l b mi ck ((D.map (·.1)).toArray.push (entB e).1) ck))).objs[s.objs.length]? = some (iterO l b mi ck ((D.map (·.1)).toArray.push (entB e).1) ck) := fun l => objs_setSB hil
      have omi : ∀ o, (s'.set s.objs.length o).objs[mi]? = some (.map (E.map entB) ck) := fun o => by rw [objs_setNB (by omega)]; exact hm'
      repeat' (first | (simp -dsimp only [↓reduceIte, go_sem, t1, t6, t7, t16]) | (refine arr_intro fun _ => ?_) | (refine later_intro ⟨keeps_nil, ?_⟩) | (refine later_intro ⟨keeps_refl, ?_⟩) | (with_reducible refine keeps_go ?_ ?_; focus (first | (simp [keeps_cons, keeps_none, objs_app, objs_app0]; done) | (simp only [keeps_cons, keeps_none, objs_app0, objs_app, and_true]; first | rfl | exact ⟨rfl, rfl⟩ | exact ⟨rfl, rfl, rfl⟩))) | (with_reducible refine (And.intro (a := keeps _ _ _) ?_ ?_); focus (first | (simp [keeps_cons, keeps_none, objs_app, objs_app0]; done) | (simp only [keeps_cons, keeps_none, objs_app0, objs_app, and_true]; first | rfl | exact ⟨rfl, rfl⟩ | exact ⟨rfl, rfl, rfl⟩))) | (refine both_ways ?_ ?_) | (rw [wrap_i64 (by omega) (by omega)]) | (refine guardV_split (fun h => ?_) (fun h => ?_) <;> (try rw [h]) <;> (try simp at h) <;> (try (exfalso; omega))))
      refine ⟨s.objs.length, l, b, mi, ck, (D.map (·.1)).toArray, _, entB e, ck, rfl, oit _, omi _, he, ?_⟩
      have hx3 := hx.set (o := iterO l b mi ck ((D.map (·.1)).toArray.push (entB e).1) ck) (Nat.le_refl s.objs.length)
      have oit3 : (s'.set s.objs.length (iterO l b mi ck ((D.map (·.1)).toArray.push (entB e).1) ck)).objs[s.objs.length]? = some (iterO l b mi ck ((D ++ [e]).map (·.1)).toArray ck) := by
        rw [objs_setSB hil]
        have : (D.map (·.1)).toArray.push (entB e).1 = ((D ++ [e]).map (·.1)).toArray := by simp [entB]
        rw [this]
      generalize s'.set s.objs.length (iterO l b mi ck ((D.map (·.1)).toArray.push (entB e).1) ck) = s3 at *
      have k1 : (entB e).2.1 = .agg (bkeyPs (kOf e.2)) := rfl
      have k2 : (entB e).2.2 = .agg (blobPs e.2) := rfl
      have k3 : (kOf e.2).owner = e.2.owner := rfl
      have hrt : ∀ b ∈ D.map (·.2), b.Rt := fun b hb => by
        obtain ⟨x, hx, rfl⟩ := List.mem_map.1 hb
        exact hB.rt _ (List.mem_map_of_mem (hD.sub x hx))
      have hn := usedN_le (L := D.map (·.2)) (o := o)
      have hb := usedB_le (L := D.map (·.2)) (o := o) hrt
      rw [List.length_map] at hn hb
      have her := (hB.rt e.2 (List.mem_map_of_mem he0)).2.2.2.2
      have w1 : IntKind.i64.wrap ((usedN (D.map (·.2)) o : Nat) + 1) = ((usedN (D.map (·.2)) o + 1 : Nat) : Int) := by rw [wrap_i64 (by omega) (by omega)]; simp
      have w2 : IntKind.i64.wrap ((usedB (D.map (·.2)) o : Nat) + (e.2.cipher.length : Nat)) = ((usedB (D.map (·.2)) o + e.2.cipher.length : Nat) : Int) := by rw [wrap_i64 (by omega) (by omega)]; simp
      by_cases ho : e.2.owner = o
      · have d1 : usedN ((D ++ [e]).map (·.2)) o = usedN (D.map (·.2)) o + 1 := by rw [List.map_append, usedN_app]; simp [usedN, ho]
        have d2 : usedB ((D ++ [e]).map (·.2)) o = usedB (D.map (·.2)) o + e.2.cipher.length := by rw [List.map_append, usedB_app]; simp [usedB, lenOf, ho]
        have hq : (e.2.owner == o) = true := by simp [ho]
        repeat' (first | (simp -dsimp only [↓reduceIte, go_sem, t1, t6, t7, t16, k1, k2, k3, hq, w1, w2]) | (refine arr_intro fun _ => ?_) | (refine later_intro ⟨keeps_nil, ?_⟩) | (refine later_intro ⟨keeps_refl, ?_⟩) | (with_reducible refine keeps_go ?_ ?_; focus (first | (simp [keeps_cons, keeps_none, objs_app, objs_app0]; done) | (simp only [keeps_cons, keeps_none, objs_app0, objs_app, and_true]; first | rfl | exact ⟨rfl, rfl⟩ | exact ⟨rfl, rfl, rfl⟩))) | (with_reducible refine (And.intro (a := keeps _ _ _) ?_ ?_); focus (first | (simp [keeps_cons, keeps_none, objs_app, objs_app0]; done) | (simp only [keeps_cons, keeps_none, objs_app0, objs_app, and_true]; first | rfl | exact ⟨rfl, rfl⟩ | exact ⟨rfl, rfl, rfl⟩))) | (refine both_ways ?_ ?_) | (rw [wrap_i64 (by omega) (by omega)]) | (refine guardV_split (fun h => ?_) (fun h => ?_) <;> (try rw [h]) <;> (try simp at h) <;> (try (exfalso; omega))))
        refine later_intro ⟨i + 1, by omega, D ++ [e], ck, by simp [hDl], hD', Nat.le_refl _, hx3.trans (Ext.app _ _), objs_known_app oit3 _, ?_, ?_, ?_, ?_⟩ <;> (try simp only [go_sem, t1, t6, t7, t16, d1, d2]) <;> (try rfl)
      · have d1 : usedN ((D ++ [e]).map (·.2)) o = usedN (D.map (·.2)) o := by rw [List.map_append, usedN_app]; simp [usedN, ho]
        have d2 : usedB ((D ++ [e]).map (·.2)) o = usedB (D.map (·.2)) o := by rw [List.map_append, usedB_app]; simp [usedB, lenOf, ho]
        have hq : (e.2.owner == o) = false := by simp [ho]
        repeat' (first | (simp -dsimp only [↓reduceIte, go_sem, t1, t6, t7, t16, k1, k2, k3, hq, w1, w2]) | (refine arr_intro fun _ => ?_) | (refine later_intro ⟨keeps_nil, ?_⟩) | (refine later_intro ⟨keeps_refl, ?_⟩) | (with_reducible refine keeps_go ?_ ?_; focus (first | (simp [keeps_cons, keeps_none, objs_app, objs_app0]; done) | (simp only [keeps_cons, keeps_none, objs_app0, objs_app, and_true]; first | rfl | exact ⟨rfl, rfl⟩ | exact ⟨rfl, rfl, rfl⟩))) | (with_reducible refine (And.intro (a := keeps _ _ _) ?_ ?_); focus (first | (simp [keeps_cons, keeps_none, objs_app, objs_app0]; done) | (simp only [keeps_cons, keeps_none, objs_app0, objs_app, and_true]; first | rfl | exact ⟨rfl, rfl⟩ | exact ⟨rfl, rfl, rfl⟩))) | (refine both_ways ?_ ?_) | (rw [wrap_i64 (by omega) (by omega)]) | (refine guardV_split (fun h => ?_) (fun h => ?_) <;> (try rw [h]) <;> (try simp at h) <;> (try (exfalso; omega))))
        refine later_intro ⟨i + 1, by omega, D ++ [e], ck, by simp [hDl], hD', Nat.le_refl _, hx3.trans (Ext.app _ _), objs_known_app oit3 _, ?_, ?_, ?_, ?_⟩ <;> (try simp only [go_sem, t1, t6, t7, t16, d1, d2]) <;> (try rfl)
    · have hperm := hD.all hnd fun e he => by
        have := hall (entB e) (List.mem_map_of_mem he)
        simpa [entB] using this
      have e1 := usedN_perm (hperm.map (·.2)) (o := o)
      have e2 := usedB_perm (hperm.map (·.2)) (o := o)
      repeat' (first | (simp -dsimp only [↓reduceIte, go_sem, t1, t6, t7, t16, e1, e2]) | (refine arr_intro fun _ => ?_) | (refine later_intro ⟨keeps_nil, ?_⟩) | (refine later_intro ⟨keeps_refl, ?_⟩) | (with_reducible refine keeps_go ?_ ?_; focus (first | (simp [keeps_cons, keeps_none, objs_app, objs_app0]; done) | (simp only [keeps_cons, keeps_none, objs_app0, objs_app, and_true]; first | rfl | exact ⟨rfl, rfl⟩ | exact ⟨rfl, rfl, rfl⟩))) | (with_reducible refine (And.intro (a := keeps _ _ _) ?_ ?_); focus (first | (simp [keeps_cons, keeps_none, objs_app, objs_app0]; done) | (simp only [keeps_cons, keeps_none, objs_app0, objs_app, and_true]; first | rfl | exact ⟨rfl, rfl⟩ | exact ⟨rfl, rfl, rfl⟩))) | (refine both_ways ?_ ?_) | (rw [wrap_i64 (by omega) (by omega)]) | (refine guardV_split (fun h => ?_) (fun h => ?_) <;> (try rw [h]) <;> (try simp at h) <;> (try (exfalso; omega))))
      exact hK _ hx
end
end Go.Aff.L10

/- Layer 11, walked: Get, Put, Prune. -/
-- cuts
namespace Go.Aff.L10
open Go.Proofs Go.Aff Go.Aff.L01 Classical
set_option linter.unusedVariables false
set_option linter.unusedSimpArgs false
set_option maxRecDepth 20000
attribute [local go_sem] push_app app_app length_app cellAt_app cellAt_app0 set_app set_app0 objs_app objs_app0 List.cons_append List.nil_append List.length_cons List.length_nil List.getElem?_cons_zero List.getElem?_cons_succ List.set_cons_zero List.set_cons_succ List.length_map
attribute [-go_sem] cellAt_new
attribute [-simp] List.length_flatMap
attribute [local go_sem] Try.underlying3 Try.underlying4 Try.underlying5 Try.underlying9 Try.underlying24 Try.underlying43 Try.underlying37 Try.underlying22 Try.underlying32 blobPs_0 blobAt_0 blobSet_0 blobPs_1 blobAt_1 blobSet_1 blobPs_2 blobAt_2 blobSet_2 blobPs_3 blobAt_3 blobSet_3 sizes_blob shapes_blob fits_blob zero_blob zt_blob built_blob Try.underlying26 bkeyPs_0 bkeyAt_0 bkeySet_0 bkeyPs_1 bkeyAt_1 bkeySet_1 sizes_bkey shapes_bkey fits_bkey zero_bkey zt_bkey built_bkey Try.underlying56 rstPs_0 rstAt_0 rstSet_0 sizes_rst shapes_rst fits_rst zero_rst zt_rst built_rst Try.underlying45 actPs_0 actAt_0 actSet_0 actPs_1 actAt_1 actSet_1 actPs_2 actAt_2 actSet_2 actPs_3 actAt_3 actSet_3 actPs_4 actAt_4 actSet_4 sizes_act shapes_act fits_act zero_act zt_act built_act Try.underlying42
attribute [local go_sem] fits3 fits4 fits5 fits9 fits23 fits26 fits31 fits34 zt3 zero3 bin_blob_eql bin_blob_neq
attribute [local go_sem ↓] blockQ_exit2
attribute [local simp] dig_ext
attribute [local go_sem] fits58 stAt zero60 zt60 built60 fits60 shape_mp Try.underlying58 Try.underlying60 Try.underlying27 Try.underlying28
attribute [local go_sem] fits_bkey zero_bkey zt_bkey built_bkey
noncomputable def bgot (B : List Blob) (o n : Int) : Option Blob := match bfind B o n with
  | some i => B[i]?
  | none => none
section
variable {σ0 s : AST} {j mi : Nat} {B : List Blob} {F : List (Nat × AObj)} {K : AV → AST → Prop}
theorem sget_nil {σ : AST} {o n : Int} {K : AV → AST → Prop} (hK : K (.tuple [.agg (blobPs blob0), .int .i64 1]) σ) : TCalls Try.prog 11 [.ptr none, .int .i64 o, .int .i64 n] σ K := by
  refine TCalls.drop ?_
  refine tcalls_walk Try.f11 _ [.cell 6 26, .tmp 7] Try.func11 rfl rfl rfl mixed (Nat.le_of_ble_eq_true rfl) rfl fun hlen => ?_
  repeat' (first | (simp -dsimp only [↓reduceIte, go_sem]) | (refine arr_intro fun _ => ?_) | (refine later_intro ⟨keeps_nil, ?_⟩) | (refine later_intro ⟨keeps_refl, ?_⟩) | (with_reducible refine keeps_go ?_ ?_; focus (first | (simp [keeps_cons, keeps_none, objs_app, objs_app0]; done) | (simp only [keeps_cons, keeps_none, objs_app0, objs_app, and_true]; first | rfl | exact ⟨rfl, rfl⟩ | exact ⟨rfl, rfl, rfl⟩))) | (with_reducible refine (And.intro (a := keeps _ _ _) ?_ ?_); focus (first | (simp [keeps_cons, keeps_none, objs_app, objs_app0]; done) | (simp only [keeps_cons, keeps_none, objs_app0, objs_app, and_true]; first | rfl | exact ⟨rfl, rfl⟩ | exact ⟨rfl, rfl, rfl⟩))) | (refine both_ways ?_ ?_) | (rw [wrap_i64 (by omega) (by omega)]) | (refine guardV_split (fun h => ?_) (fun h => ?_) <;> (try rw [h]) <;> (try simp at h) <;> (try (exfalso; omega))))
  exact ⟨Ext.app _ _, by simp [AV.noRef, AV.noRefs, blobPs], by simpa [AV.strip, AV.strips, blobPs] using hK⟩
theorem sget_c (h : SF σ0 s j mi B F) {o n : Int} (hK : ∀ s', Ext s s' → K (match bgot B o n with | some b => .tuple [.agg (blobPs b), .int .i64 0] | none => .tuple [.agg (blobPs blob0), .int .i64 9]) s') : TCalls Try.prog 11 [.ptr (some (j, [])), .int .i64 o, .int .i64 n] s K := by
  obtain ⟨E, ck, rfl, hm, hck, hnd⟩ := h.om
  have oA := fun l => objs_known_app h.o l
  have cj := fun l => cellAt_known (oA l)
  have mA := fun l => objs_known_app hm l
  unfold bgot at hK
  refine tcalls_walk Try.f11 _ [.cell 6 26, .tmp 7] Try.func11 rfl rfl rfl mixed (Nat.le_of_ble_eq_true rfl) rfl fun hlen => ?_
  repeat' (first | (simp -dsimp only [↓reduceIte, go_sem, cj]) | (refine arr_intro fun _ => ?_) | (refine later_intro ⟨keeps_nil, ?_⟩) | (refine later_intro ⟨keeps_refl, ?_⟩) | (with_reducible refine keeps_go ?_ ?_; focus (first | (simp [keeps_cons, keeps_none, objs_app, objs_app0]; done) | (simp only [keeps_cons, keeps_none, objs_app0, objs_app, and_true]; first | rfl | exact ⟨rfl, rfl⟩ | exact ⟨rfl, rfl, rfl⟩))) | (with_reducible refine (And.intro (a := keeps _ _ _) ?_ ?_); focus (first | (simp [keeps_cons, keeps_none, objs_app, objs_app0]; done) | (simp only [keeps_cons, keeps_none, objs_app0, objs_app, and_true]; first | rfl | exact ⟨rfl, rfl⟩ | exact ⟨rfl, rfl, rfl⟩))) | (refine both_ways ?_ ?_) | (rw [wrap_i64 (by omega) (by omega)]) | (refine guardV_split (fun h => ?_) (fun h => ?_) <;> (try rw [h]) <;> (try simp at h) <;> (try (exfalso; omega))) | (refine lookupB (mA _) (fun i b hf hb => ?_) (fun hf => ?_)))
  · simp only [hf, hb] at hK
    exact hK _ (Ext.app _ _)
  · simp only [hf] at hK
    exact hK _ (Ext.app _ _)
theorem lookupB_some {σ : AST} {E : List (Nat × Blob)} {ck i : Nat} {o n : Int} {b : Blob} {KV : AV → Prop} (ho : σ.objs[mi]? = some (.map (E.map entB) ck)) (hf : bfind (E.map (·.2)) o n = some i) (hb : (E.map (·.2))[i]? = some b)
    (h1 : KV (.tuple [.agg (blobPs b), .bool true])) : lookupW Try.prog σ 58 (.mp (some mi)) (.agg (bkeyPs ⟨o, n⟩)) true KV :=
  lookupB ho (fun i' b' hf' hb' => by rw [hf] at hf'; cases hf'; rw [hb] at hb'; cases hb'; exact h1) (fun hf' => by rw [hf] at hf'; cases hf')
theorem lookupB_none {σ : AST} {E : List (Nat × Blob)} {ck : Nat} {o n : Int} {KV : AV → Prop} (ho : σ.objs[mi]? = some (.map (E.map entB) ck)) (hf : bfind (E.map (·.2)) o n = none)
    (h1 : KV (.tuple [.agg (blobPs blob0), .bool false])) : lookupW Try.prog σ 58 (.mp (some mi)) (.agg (bkeyPs ⟨o, n⟩)) true KV :=
  lookupB ho (fun i' b' hf' hb' => by rw [hf] at hf'; cases hf') (fun _ => h1)
theorem sput_nil {σ : AST} {b : Blob} {K : AV → AST → Prop} (hK : K (.int .i64 1) σ) : TCalls Try.prog 10 [.ptr none, .agg (blobPs b)] σ K := by
  refine TCalls.drop ?_
  refine tcalls_walk Try.f10 _ [.tmp 4] Try.func10 rfl rfl rfl mixed (Nat.le_of_ble_eq_true rfl) rfl fun hlen => ?_
  repeat' (first | (simp -dsimp only [↓reduceIte, go_sem]) | (refine arr_intro fun _ => ?_) | (refine later_intro ⟨keeps_nil, ?_⟩) | (refine later_intro ⟨keeps_refl, ?_⟩) | (with_reducible refine keeps_go ?_ ?_; focus (first | (simp [keeps_cons, keeps_none, objs_app, objs_app0]; done) | (simp only [keeps_cons, keeps_none, objs_app0, objs_app, and_true]; first | rfl | exact ⟨rfl, rfl⟩ | exact ⟨rfl, rfl, rfl⟩))) | (with_reducible refine (And.intro (a := keeps _ _ _) ?_ ?_); focus (first | (simp [keeps_cons, keeps_none, objs_app, objs_app0]; done) | (simp only [keeps_cons, keeps_none, objs_app0, objs_app, and_true]; first | rfl | exact ⟨rfl, rfl⟩ | exact ⟨rfl, rfl, rfl⟩))) | (refine both_ways ?_ ?_) | (rw [wrap_i64 (by omega) (by omega)]) | (refine guardV_split (fun h => ?_) (fun h => ?_) <;> (try rw [h]) <;> (try simp at h) <;> (try (exfalso; omega))))
  exact ⟨Ext.app _ _, rfl, by simpa [AV.strip] using hK⟩
theorem sput_c (h : SF σ0 s j mi B F) (hB : BOk B) {b : Blob} (hK : ∀ s', SF σ0 s' j mi (bput B b).1 F → K (.int .i64 (bput B b).2) s') : TCalls Try.prog 10 [.ptr (some (j, [])), .agg (blobPs b)] s K := by
  have hA := fun l => h.ext (Ext.app s l)
  have oA := fun l => (hA l).o
  have cj := fun l => cellAt_known (oA l)
  obtain ⟨E, ck, hE, hm, hck, hnd⟩ := h.om
  have mA := fun l => objs_known_app hm l
  unfold bput at hK
  by_cases hr : b.Rt
  · rw [if_neg (fun hh => hh hr)] at hK
    cases hf : bfind B b.owner b.num with
    | some i =>
      obtain ⟨b', hb', _⟩ := bfind_some hf
      simp only [hf, hb', Option.some.injEq] at hK
      rw [← hE] at hf hb'
      by_cases he : b' = b
      · rw [if_pos he] at hK
        subst he
        refine tcalls_walk Try.f10 _ [.tmp 4] Try.func10 rfl rfl rfl mixed (Nat.le_of_ble_eq_true rfl) rfl fun hlen => ?_
        repeat' (first | (simp -dsimp only [↓reduceIte, go_sem, cj, hr]) | (refine arr_intro fun _ => ?_) | (refine later_intro ⟨keeps_nil, ?_⟩) | (refine later_intro ⟨keeps_refl, ?_⟩) | (with_reducible refine keeps_go ?_ ?_; focus (first | (simp [keeps_cons, keeps_none, objs_app, objs_app0]; done) | (simp only [keeps_cons, keeps_none, objs_app0, objs_app, and_true]; first | rfl | exact ⟨rfl, rfl⟩ | exact ⟨rfl, rfl, rfl⟩))) | (with_reducible refine (And.intro (a := keeps _ _ _) ?_ ?_); focus (first | (simp [keeps_cons, keeps_none, objs_app, objs_app0]; done) | (simp only [keeps_cons, keeps_none, objs_app0, objs_app, and_true]; first | rfl | exact ⟨rfl, rfl⟩ | exact ⟨rfl, rfl, rfl⟩))) | (refine both_ways ?_ ?_) | (rw [wrap_i64 (by omega) (by omega)]) | (refine guardV_split (fun h => ?_) (fun h => ?_) <;> (try rw [h]) <;> (try simp at h) <;> (try (exfalso; omega))) | ((refine bright_c ?_)) | (with_reducible refine awp_drawU (id := 6) (.op 0 0 (.op 1 0 (.op 2 0 (.op 3 0 (.op 4 0 (.fork 5 (.op 5 1 (.op 6 0 (.op 7 0 (.op 8 0 (.op 9 1 (.op 10 1 (.op 11 2 .nil))))))) (.op 9 1 (.cut (.op 5 1 (.op 6 2 (.op 7 2 (.op 8 0 (.op 10 1 (.op 11 2 .nil)))))))))))))) (by kernel_rfl) ?_) | (with_reducible refine keeps_go ?_ ?_; focus (simp [keeps_cons, keeps_none, objs_app, objs_app0, oA]; done)) | (with_reducible refine (And.intro (a := keeps _ _ _) ?_ ?_); focus (simp [keeps_cons, keeps_none, objs_app, objs_app0, oA]; done)) | (refine lookupB_some (mA _) hf hb' ?_))
        all_goals exact hK _ (hA _)
      · rw [if_neg he] at hK
        refine tcalls_walk Try.f10 _ [.tmp 4] Try.func10 rfl rfl rfl mixed (Nat.le_of_ble_eq_true rfl) rfl fun hlen => ?_
        repeat' (first | (simp -dsimp only [↓reduceIte, go_sem, cj, hr, he]) | (refine arr_intro fun _ => ?_) | (refine later_intro ⟨keeps_nil, ?_⟩) | (refine later_intro ⟨keeps_refl, ?_⟩) | (with_reducible refine keeps_go ?_ ?_; focus (first | (simp [keeps_cons, keeps_none, objs_app, objs_app0]; done) | (simp only [keeps_cons, keeps_none, objs_app0, objs_app, and_true]; first | rfl | exact ⟨rfl, rfl⟩ | exact ⟨rfl, rfl, rfl⟩))) | (with_reducible refine (And.intro (a := keeps _ _ _) ?_ ?_); focus (first | (simp [keeps_cons, keeps_none, objs_app, objs_app0]; done) | (simp only [keeps_cons, keeps_none, objs_app0, objs_app, and_true]; first | rfl | exact ⟨rfl, rfl⟩ | exact ⟨rfl, rfl, rfl⟩))) | (refine both_ways ?_ ?_) | (rw [wrap_i64 (by omega) (by omega)]) | (refine guardV_split (fun h => ?_) (fun h => ?_) <;> (try rw [h]) <;> (try simp at h) <;> (try (exfalso; omega))) | ((refine bright_c ?_)) | (with_reducible refine awp_drawU (id := 6) (.op 0 0 (.op 1 0 (.op 2 0 (.op 3 0 (.op 4 0 (.fork 5 (.op 5 1 (.op 6 0 (.op 7 0 (.op 8 0 (.op 9 1 (.op 10 1 (.op 11 2 .nil))))))) (.op 9 1 (.cut (.op 5 1 (.op 6 2 (.op 7 2 (.op 8 0 (.op 10 1 (.op 11 2 .nil)))))))))))))) (by kernel_rfl) ?_) | (with_reducible refine keeps_go ?_ ?_; focus (simp [keeps_cons, keeps_none, objs_app, objs_app0, oA]; done)) | (with_reducible refine (And.intro (a := keeps _ _ _) ?_ ?_); focus (simp [keeps_cons, keeps_none, objs_app, objs_app0, oA]; done)) | (refine lookupB_some (mA _) hf hb' ?_))
        all_goals exact hK _ (hA _)
    | none =>
      simp only [hf] at hK
      have hf' := hf
      rw [← hE] at hf'
      have hn := hB.n b.owner
      have hb := hB.b b.owner
      have hbl := hr.2.2.2.2
      have hws : IntKind.i64.wrap (32768 - (b.cipher.length : Int)) = 32768 - (b.cipher.length : Int) := wrap_i64 (by omega) (by omega)
      by_cases hroom : 256 ≤ usedN B b.owner ∨ 32768 < usedB B b.owner + b.cipher.length
      · rw [if_pos hroom] at hK
        refine tcalls_walk Try.f10 _ [.tmp 4] Try.func10 rfl rfl rfl mixed (Nat.le_of_ble_eq_true rfl) rfl fun hlen => ?_
        repeat' (first | (simp -dsimp only [↓reduceIte, go_sem, cj, hr, hws]) | (refine arr_intro fun _ => ?_) | (refine later_intro ⟨keeps_nil, ?_⟩) | (refine later_intro ⟨keeps_refl, ?_⟩) | (with_reducible refine keeps_go ?_ ?_; focus (first | (simp [keeps_cons, keeps_none, objs_app, objs_app0]; done) | (simp only [keeps_cons, keeps_none, objs_app0, objs_app, and_true]; first | rfl | exact ⟨rfl, rfl⟩ | exact ⟨rfl, rfl, rfl⟩))) | (with_reducible refine (And.intro (a := keeps _ _ _) ?_ ?_); focus (first | (simp [keeps_cons, keeps_none, objs_app, objs_app0]; done) | (simp only [keeps_cons, keeps_none, objs_app0, objs_app, and_true]; first | rfl | exact ⟨rfl, rfl⟩ | exact ⟨rfl, rfl, rfl⟩))) | (refine both_ways ?_ ?_) | (rw [wrap_i64 (by omega) (by omega)]) | (refine guardV_split (fun h => ?_) (fun h => ?_) <;> (try rw [h]) <;> (try simp at h) <;> (try (exfalso; omega))) | ((refine bright_c ?_)) | (with_reducible refine awp_drawU (id := 6) (.op 0 0 (.op 1 0 (.op 2 0 (.op 3 0 (.op 4 0 (.fork 5 (.op 5 1 (.op 6 0 (.op 7 0 (.op 8 0 (.op 9 1 (.op 10 1 (.op 11 2 .nil))))))) (.op 9 1 (.cut (.op 5 1 (.op 6 2 (.op 7 2 (.op 8 0 (.op 10 1 (.op 11 2 .nil)))))))))))))) (by kernel_rfl) ?_) | (with_reducible refine keeps_go ?_ ?_; focus (simp [keeps_cons, keeps_none, objs_app, objs_app0, oA]; done)) | (with_reducible refine (And.intro (a := keeps _ _ _) ?_ ?_); focus (simp [keeps_cons, keeps_none, objs_app, objs_app0, oA]; done)) | (refine lookupB_none (mA _) hf' ?_))
        all_goals
          refine sused_c (hA _) hB fun s' hx => ?_
          have hT := (hA _).ext hx
          have b0 := ext_knownB hx (k := s.objs.length) (by rw [objs_app0]; rfl)
          have b1 := ext_knownB hx (k := s.objs.length + 1) (by rw [objs_app]; rfl)
          have c0 := cellAt_known b0
          have c1 := cellAt_known b1
          have oj := hT.o
          have cj := cellAt_known oj
          repeat' (first | (simp -dsimp only [↓reduceIte, go_sem, c0, c1, cj, hws]) | (refine arr_intro fun _ => ?_) | (refine later_intro ⟨keeps_nil, ?_⟩) | (refine later_intro ⟨keeps_refl, ?_⟩) | (with_reducible refine keeps_go ?_ ?_; focus (first | (simp [keeps_cons, keeps_none, objs_app, objs_app0]; done) | (simp only [keeps_cons, keeps_none, objs_app0, objs_app, and_true]; first | rfl | exact ⟨rfl, rfl⟩ | exact ⟨rfl, rfl, rfl⟩))) | (with_reducible refine (And.intro (a := keeps _ _ _) ?_ ?_); focus (first | (simp [keeps_cons, keeps_none, objs_app, objs_app0]; done) | (simp only [keeps_cons, keeps_none, objs_app0, objs_app, and_true]; first | rfl | exact ⟨rfl, rfl⟩ | exact ⟨rfl, rfl, rfl⟩))) | (refine both_ways ?_ ?_) | (rw [wrap_i64 (by omega) (by omega)]) | (refine guardV_split (fun h => ?_) (fun h => ?_) <;> (try rw [h]) <;> (try simp at h) <;> (try (exfalso; omega))))
          all_goals first | exact hK _ hT | (exfalso; omega) | skip
      · rw [if_neg hroom] at hK
        refine tcalls_walk Try.f10 _ [.tmp 4] Try.func10 rfl rfl rfl mixed (Nat.le_of_ble_eq_true rfl) rfl fun hlen => ?_
        repeat' (first | (simp -dsimp only [↓reduceIte, go_sem, cj, hr, hws]) | (refine arr_intro fun _ => ?_) | (refine later_intro ⟨keeps_nil, ?_⟩) | (refine later_intro ⟨keeps_refl, ?_⟩) | (with_reducible refine keeps_go ?_ ?_; focus (first | (simp [keeps_cons, keeps_none, objs_app, objs_app0]; done) | (simp only [keeps_cons, keeps_none, objs_app0, objs_app, and_true]; first | rfl | exact ⟨rfl, rfl⟩ | exact ⟨rfl, rfl, rfl⟩))) | (with_reducible refine (And.intro (a := keeps _ _ _) ?_ ?_); focus (first | (simp [keeps_cons, keeps_none, objs_app, objs_app0]; done) | (simp only [keeps_cons, keeps_none, objs_app0, objs_app, and_true]; first | rfl | exact ⟨rfl, rfl⟩ | exact ⟨rfl, rfl, rfl⟩))) | (refine both_ways ?_ ?_) | (rw [wrap_i64 (by omega) (by omega)]) | (refine guardV_split (fun h => ?_) (fun h => ?_) <;> (try rw [h]) <;> (try simp at h) <;> (try (exfalso; omega))) | ((refine bright_c ?_)) | (with_reducible refine awp_drawU (id := 6) (.op 0 0 (.op 1 0 (.op 2 0 (.op 3 0 (.op 4 0 (.fork 5 (.op 5 1 (.op 6 0 (.op 7 0 (.op 8 0 (.op 9 1 (.op 10 1 (.op 11 2 .nil))))))) (.op 9 1 (.cut (.op 5 1 (.op 6 2 (.op 7 2 (.op 8 0 (.op 10 1 (.op 11 2 .nil)))))))))))))) (by kernel_rfl) ?_) | (with_reducible refine keeps_go ?_ ?_; focus (simp [keeps_cons, keeps_none, objs_app, objs_app0, oA]; done)) | (with_reducible refine (And.intro (a := keeps _ _ _) ?_ ?_); focus (simp [keeps_cons, keeps_none, objs_app, objs_app0, oA]; done)) | (refine lookupB_none (mA _) hf' ?_))
        all_goals
          refine sused_c (hA _) hB fun s' hx => ?_
          have hT := (hA _).ext hx
          have b0 := ext_knownB hx (k := s.objs.length) (by rw [objs_app0]; rfl)
          have b1 := ext_knownB hx (k := s.objs.length + 1) (by rw [objs_app]; rfl)
          have c0 := cellAt_known b0
          have c1 := cellAt_known b1
          have oj := hT.o
          have cj := cellAt_known oj
          obtain ⟨E', ck', hE', hm', hck', hnd'⟩ := hT.om
          have hf2 := hf
          rw [← hE'] at hf2
          have hnew := hT.put (E := E' ++ [(ck', b)]) (ck := ck' + 1) (fun e he => by
            rcases List.mem_append.1 he with he | he
            · have := hck' e he; omega
            · simp at he; subst he; simp) (by
            rw [List.map_append, List.nodup_append]
            refine ⟨hnd', by simp, fun a ha c hc => ?_⟩
            simp at hc; subst hc
            obtain ⟨e, he, rfl⟩ := List.mem_map.1 ha
            have := hck' e he; omega)
          have e5 : (E' ++ [(ck', b)]).map (·.2) = B ++ [b] := by rw [List.map_append, hE']; rfl
          rw [e5] at hnew
          repeat' (first | (simp -dsimp only [↓reduceIte, go_sem, c0, c1, cj, hws]) | (refine arr_intro fun _ => ?_) | (refine later_intro ⟨keeps_nil, ?_⟩) | (refine later_intro ⟨keeps_refl, ?_⟩) | (with_reducible refine keeps_go ?_ ?_; focus (first | (simp [keeps_cons, keeps_none, objs_app, objs_app0]; done) | (simp only [keeps_cons, keeps_none, objs_app0, objs_app, and_true]; first | rfl | exact ⟨rfl, rfl⟩ | exact ⟨rfl, rfl, rfl⟩))) | (with_reducible refine (And.intro (a := keeps _ _ _) ?_ ?_); focus (first | (simp [keeps_cons, keeps_none, objs_app, objs_app0]; done) | (simp only [keeps_cons, keeps_none, objs_app0, objs_app, and_true]; first | rfl | exact ⟨rfl, rfl⟩ | exact ⟨rfl, rfl, rfl⟩))) | (refine both_ways ?_ ?_) | (rw [wrap_i64 (by omega) (by omega)]) | (refine guardV_split (fun h => ?_) (fun h => ?_) <;> (try rw [h]) <;> (try simp at h) <;> (try (exfalso; omega))) | (with_reducible refine awp_drawT (id := 14) (.op 0 2 (.op 1 2 (.op 2 2 (.op 3 2 (.op 4 2 (.op 5 2 (.op 6 1 .nil))))))) (by kernel_rfl) ?_) | (refine updateB hm' hf2 ?_))
          all_goals first | exact hK _ hnew | (exfalso; omega) | skip
  · rw [if_pos hr] at hK
    refine tcalls_walk Try.f10 _ [.tmp 4] Try.func10 rfl rfl rfl mixed (Nat.le_of_ble_eq_true rfl) rfl fun hlen => ?_
    repeat' (first | (simp -dsimp only [↓reduceIte, go_sem, cj, hr]) | (refine arr_intro fun _ => ?_) | (refine later_intro ⟨keeps_nil, ?_⟩) | (refine later_intro ⟨keeps_refl, ?_⟩) | (with_reducible refine keeps_go ?_ ?_; focus (first | (simp [keeps_cons, keeps_none, objs_app, objs_app0]; done) | (simp only [keeps_cons, keeps_none, objs_app0, objs_app, and_true]; first | rfl | exact ⟨rfl, rfl⟩ | exact ⟨rfl, rfl, rfl⟩))) | (with_reducible refine (And.intro (a := keeps _ _ _) ?_ ?_); focus (first | (simp [keeps_cons, keeps_none, objs_app, objs_app0]; done) | (simp only [keeps_cons, keeps_none, objs_app0, objs_app, and_true]; first | rfl | exact ⟨rfl, rfl⟩ | exact ⟨rfl, rfl, rfl⟩))) | (refine both_ways ?_ ?_) | (rw [wrap_i64 (by omega) (by omega)]) | (refine guardV_split (fun h => ?_) (fun h => ?_) <;> (try rw [h]) <;> (try simp at h) <;> (try (exfalso; omega))) | ((refine bright_c ?_)))
    exact hK _ (hA _)
end
end Go.Aff.L10

