import Derived.Test.YtnpbneiaflgpdaaG32
import Derived.Test.YtnpbneiaflgpdaaG16

set_option linter.unusedSimpArgs false
set_option linter.unusedVariables false

/- Layer 10, walked: texts made by a writer. -/
-- cuts
namespace Go.Aff.L10
open Go.Proofs Go.Aff Go.Aff.L01 Classical
set_option linter.unusedVariables false
set_option linter.unusedSimpArgs false
set_option maxRecDepth 20000
attribute [local go_sem] push_app app_app length_app cellAt_app cellAt_app0 set_app set_app0 objs_app objs_app0 List.cons_append List.nil_append List.length_cons List.length_nil List.getElem?_cons_zero List.getElem?_cons_succ List.set_cons_zero List.set_cons_succ List.length_map
attribute [-go_sem] cellAt_new
attribute [-simp] List.length_flatMap
attribute [local go_sem] Try.underlying3 Try.underlying4 Try.underlying5 Try.underlying9 Try.underlying22 Try.underlying23 Try.underlying26 Try.underlying31 Try.underlying34 Try.underlying52 subPs_0 subAt_0 subSet_0 subPs_1 subAt_1 subSet_1 subPs_2 subAt_2 subSet_2 subPs_3 subAt_3 subSet_3 subPs_4 subAt_4 subSet_4 subPs_5 subAt_5 subSet_5 sizes_sub shapes_sub fits_sub zero_sub zt_sub built_sub Try.underlying25 pendPs_0 pendAt_0 pendSet_0 pendPs_1 pendAt_1 pendSet_1 pendPs_2 pendAt_2 pendSet_2 pendPs_3 pendAt_3 pendSet_3 pendPs_4 pendAt_4 pendSet_4 pendPs_5 pendAt_5 pendSet_5 sizes_pend shapes_pend fits_pend zero_pend zt_pend built_pend Try.underlying98 repPs_0 repAt_0 repSet_0 repPs_1 repAt_1 repSet_1 repPs_2 repAt_2 repSet_2 repPs_3 repAt_3 repSet_3 repPs_4 repAt_4 repSet_4 repPs_5 repAt_5 repSet_5 repPs_6 repAt_6 repSet_6 repPs_7 repAt_7 repSet_7 repPs_8 repAt_8 repSet_8 repPs_9 repAt_9 repSet_9 sizes_rep shapes_rep fits_rep zero_rep zt_rep built_rep Try.underlying28 blobPs_0 blobAt_0 blobSet_0 blobPs_1 blobAt_1 blobSet_1 blobPs_2 blobAt_2 blobSet_2 blobPs_3 blobAt_3 blobSet_3 sizes_blob shapes_blob fits_blob zero_blob zt_blob built_blob Try.underlying30 msgPs_0 msgAt_0 msgSet_0 msgPs_1 msgAt_1 msgSet_1 msgPs_2 msgAt_2 msgSet_2 msgPs_3 msgAt_3 msgSet_3 msgPs_4 msgAt_4 msgSet_4 msgPs_5 msgAt_5 msgSet_5 msgPs_6 msgAt_6 msgSet_6 msgPs_7 msgAt_7 msgSet_7 msgPs_8 msgAt_8 msgSet_8 msgPs_9 msgAt_9 msgSet_9 sizes_msg shapes_msg fits_msg zero_msg zt_msg built_msg Try.underlying33 at_Ps_0 at_At_0 at_Set_0 at_Ps_1 at_At_1 at_Set_1 sizes_at_ shapes_at_ fits_at_ zero_at_ zt_at_ built_at_ Try.underlying77
attribute [local go_sem] fits3 fits4 fits5 fits9 fits23 fits26 fits31 fits34 fits52 zt3 zero3 zt34 zero34 zt23 zero23 bin_sub_eql bin_pend_eql bin_pend_neq bin_blob_eql bin_dig23_eql bin_dig23_neq slice23
attribute [local go_sem ↓] blockQ_exit2
attribute [local simp] dig_ext
attribute [local go_sem] rdrPs_0 rdrAt_0 rdrSet_0 rdrPs_1 rdrAt_1 rdrSet_1 rdrPs_2 rdrAt_2 rdrSet_2 sizes_rdr shapes_rdr fits_rdr zero_rdr zt_rdr built_rdr Try.underlying72 Try.underlying70 Try.underlying75 bin_bool_ne appc appn built23
attribute [local go_sem] wAt zero54 zt54 built54 fits54 Try.underlying54 Try.underlying51 Try.underlying96 msgSet_9s slV_eq
theorem made_c {f : Nat} {caps : List AV} {B : List UInt8} {F : List (Nat × AObj)} {σ : AST} {K : AV → AST → Prop} (hF : ∀ x ∈ F, σ.objs[x.1]? = some x.2) (hl : B.length ≤ 1000000)
    (hcall : ∀ s j (K' : AV → AST → Prop), WF σ s j [] F → (∀ s', WF σ s' j B F → K' (.tuple []) s') → TCalls Try.prog f (.ptr (some (j, [])) :: caps) s K') (hK : K (.str B) σ) : TCalls Try.prog 54 [.fn (.func f) [] caps] σ K := by
  refine TCalls.drop ?_
  refine tcalls_walk Try.f54 _ [.tmp 2] Try.func54 rfl rfl rfl mixed (Nat.le_of_ble_eq_true rfl) rfl fun hlen => ?_
  repeat' (first | (simp -dsimp only [↓reduceIte, go_sem]) | (refine arr_intro fun _ => ?_) | (refine later_intro ⟨keeps_nil, ?_⟩) | (refine later_intro ⟨keeps_refl, ?_⟩) | (with_reducible refine keeps_go ?_ ?_; focus (simp [keeps_cons, keeps_none, objs_app, objs_app0]; done)) | (refine both_ways ?_ ?_) | (rw [wrap_i64 (by omega) (by omega)]) | (refine guardV_split (fun h => ?_) (fun h => ?_) <;> (try rw [h]) <;> (try simp at h) <;> (try (exfalso; omega))))
  have h : WF σ (σ.app [.cells (.agg [.slice .full []])]) σ.objs.length [] F := by
    refine ⟨Ext.app _ _, by omega, ⟨.full, .inl rfl, trivial, objs_app0⟩, fun x hx => ?_⟩
    have := hF x hx
    exact ⟨by have := (List.getElem?_eq_some_iff.1 this).1; omega, objs_known_app this _⟩
  refine hcall _ _ _ h fun s h => ?_
  obtain ⟨tb, w1, w2, w3⟩ := h.w
  have c := cellAt_known w3
  repeat' (first | (simp -dsimp only [↓reduceIte, go_sem, c]) | (refine arr_intro fun _ => ?_) | (refine later_intro ⟨keeps_nil, ?_⟩) | (refine later_intro ⟨keeps_refl, ?_⟩) | (with_reducible refine keeps_go ?_ ?_; focus (simp [keeps_cons, keeps_none, objs_app, objs_app0]; done)) | (refine both_ways ?_ ?_) | (rw [wrap_i64 (by omega) (by omega)]) | (refine guardV_split (fun h => ?_) (fun h => ?_) <;> (try rw [h]) <;> (try simp at h) <;> (try (exfalso; omega))))
  exact ⟨h.x, rfl, by simpa [AV.strip] using hK⟩
theorem made2_c {f : Nat} {caps : List AV} {B : List UInt8} {F : List (Nat × AObj)} {σ0 σ : AST} {K : AV → AST → Prop} (hx : Ext σ0 σ) (hF : ∀ x ∈ F, σ.objs[x.1]? = some x.2) (hl : B.length ≤ 1000000)
    (hcall : ∀ s j (K' : AV → AST → Prop), WF σ0 s j [] F → (∀ s', WF σ0 s' j B [] → K' (.tuple []) s') → TCalls Try.prog f (.ptr (some (j, [])) :: caps) s K') (hK : ∀ s, Ext σ0 s → K (.str B) s) : TCalls Try.prog 54 [.fn (.func f) [] caps] σ K := by
  refine tcalls_walk Try.f54 _ [.tmp 2] Try.func54 rfl rfl rfl mixed (Nat.le_of_ble_eq_true rfl) rfl fun hlen => ?_
  repeat' (first | (simp -dsimp only [↓reduceIte, go_sem]) | (refine arr_intro fun _ => ?_) | (refine later_intro ⟨keeps_nil, ?_⟩) | (refine later_intro ⟨keeps_refl, ?_⟩) | (with_reducible refine keeps_go ?_ ?_; focus (simp [keeps_cons, keeps_none, objs_app, objs_app0]; done)) | (refine both_ways ?_ ?_) | (rw [wrap_i64 (by omega) (by omega)]) | (refine guardV_split (fun h => ?_) (fun h => ?_) <;> (try rw [h]) <;> (try simp at h) <;> (try (exfalso; omega))))
  have h : WF σ0 (σ.app [.cells (.agg [.slice .full []])]) σ.objs.length [] F := by
    refine ⟨hx.trans (Ext.app _ _), ?_, ⟨.full, .inl rfl, trivial, objs_app0⟩, fun x hx => ?_⟩
    · obtain ⟨O, T, rfl⟩ := hx; simp
    · have := hF x hx
      exact ⟨by have := (List.getElem?_eq_some_iff.1 this).1; omega, objs_known_app this _⟩
  refine hcall _ _ _ h fun s h => ?_
  obtain ⟨tb, w1, w2, w3⟩ := h.w
  have c := cellAt_known w3
  repeat' (first | (simp -dsimp only [↓reduceIte, go_sem, c]) | (refine arr_intro fun _ => ?_) | (refine later_intro ⟨keeps_nil, ?_⟩) | (refine later_intro ⟨keeps_refl, ?_⟩) | (with_reducible refine keeps_go ?_ ?_; focus (simp [keeps_cons, keeps_none, objs_app, objs_app0]; done)) | (refine both_ways ?_ ?_) | (rw [wrap_i64 (by omega) (by omega)]) | (refine guardV_split (fun h => ?_) (fun h => ?_) <;> (try rw [h]) <;> (try simp at h) <;> (try (exfalso; omega))))
  exact hK s h.x
theorem WF.upd {σ0 s : AST} {j k : Nat} {xs : List UInt8} {o o' : AObj} {F : List (Nat × AObj)} (h : WF σ0 s j xs ((k, o) :: F)) (hk : σ0.objs.length ≤ k) : WF σ0 (s.set k o') j xs [(k, o')] := by
  have h1 := h.f (k, o) (List.mem_cons_self ..)
  have hkl := (List.getElem?_eq_some_iff.1 h1.2).1
  obtain ⟨tb, w1, w2, w3⟩ := h.w
  refine ⟨h.x.set hk, h.jn, ⟨tb, w1, by rw [canApp_set]; exact w2, ?_⟩, fun x hx => ?_⟩
  · rw [objs_setN h1.1]; exact w3
  · simp only [List.mem_cons, List.not_mem_nil, or_false] at hx
    subst hx
    exact ⟨h1.1, objs_setS hkl⟩
theorem asked_c {n : Int} {x : Sub} (hn : InI [n, x.num, x.kind, x.target]) {σ : AST} {K : AV → AST → Prop} (hK : K (.str ([n, x.num, x.kind, x.target].flatMap numS)) σ) : TCalls Try.prog 18 [.int .i64 n, subV x] σ K := by
  refine TCalls.drop ?_
  have hl := hn.len
  refine tcalls_walk Try.f18 _ [.tmp 4] Try.func18 rfl rfl rfl mixed (Nat.le_of_ble_eq_true rfl) rfl fun hlen => ?_
  repeat' (first | (simp -dsimp only [↓reduceIte, go_sem]) | (refine arr_intro fun _ => ?_) | (refine later_intro ⟨keeps_nil, ?_⟩) | (refine later_intro ⟨keeps_refl, ?_⟩) | (with_reducible refine keeps_go ?_ ?_; focus (simp [keeps_cons, keeps_none, objs_app, objs_app0]; done)) | (refine both_ways ?_ ?_) | (rw [wrap_i64 (by omega) (by omega)]) | (refine guardV_split (fun h => ?_) (fun h => ?_) <;> (try rw [h]) <;> (try simp at h) <;> (try (exfalso; omega))))
  refine side_later (by intro y hy; simp only [List.mem_cons, List.not_mem_nil, or_false] at hy; rcases hy with rfl | rfl <;> simp [go_sem]) ?_
  repeat' (first | (simp -dsimp only [↓reduceIte, go_sem]) | (refine arr_intro fun _ => ?_) | (refine later_intro ⟨keeps_nil, ?_⟩) | (refine later_intro ⟨keeps_refl, ?_⟩) | (with_reducible refine keeps_go ?_ ?_; focus (simp [keeps_cons, keeps_none, objs_app, objs_app0]; done)) | (refine both_ways ?_ ?_) | (rw [wrap_i64 (by omega) (by omega)]) | (refine guardV_split (fun h => ?_) (fun h => ?_) <;> (try rw [h]) <;> (try simp at h) <;> (try (exfalso; omega))))
  refine made_c (B := [n, x.num, x.kind, x.target].flatMap numS) (F := [(σ.objs.length, .cells (.int .i64 n)), (σ.objs.length + 1, .cells (subV x))]) ?_ (by simp only [List.length_cons, List.length_nil] at hl; omega) ?_ ?_
  · intro y hy
    simp only [List.mem_cons, List.not_mem_nil, or_false] at hy
    rcases hy with rfl | rfl <;> simp [AST.app]
  · intro s j K' h hK'
    have c0 := h.cell (k := σ.objs.length) (List.mem_cons_self ..)
    have c1 := h.cell (k := σ.objs.length + 1) (v := subV x) (by simp)
    refine tcalls_walk Try.f55 _ [] Try.func55 rfl rfl rfl mixed (Nat.le_of_ble_eq_true rfl) rfl fun hlen => ?_
    repeat' (first | (simp -dsimp only [↓reduceIte, go_sem, c0, c1]) | (refine arr_intro fun _ => ?_) | (refine later_intro ⟨keeps_nil, ?_⟩) | (refine later_intro ⟨keeps_refl, ?_⟩) | (with_reducible refine keeps_go ?_ ?_; focus (simp [keeps_cons, keeps_none, objs_app, objs_app0]; done)) | (refine both_ways ?_ ?_) | (rw [wrap_i64 (by omega) (by omega)]) | (refine guardV_split (fun h => ?_) (fun h => ?_) <;> (try rw [h]) <;> (try simp at h) <;> (try (exfalso; omega))) | (refine bI4 ?_))
    refine wInts_c 4 (l := [n, x.num, x.kind, x.target]) hn (by simp) (by omega) (by simp) h fun s h b => ?_
    repeat' (first | (simp -dsimp only [↓reduceIte, go_sem, c0, c1]) | (refine arr_intro fun _ => ?_) | (refine later_intro ⟨keeps_nil, ?_⟩) | (refine later_intro ⟨keeps_refl, ?_⟩) | (with_reducible refine keeps_go ?_ ?_; focus (simp [keeps_cons, keeps_none, objs_app, objs_app0]; done)) | (refine both_ways ?_ ?_) | (rw [wrap_i64 (by omega) (by omega)]) | (refine guardV_split (fun h => ?_) (fun h => ?_) <;> (try rw [h]) <;> (try simp at h) <;> (try (exfalso; omega))))
    exact hK' s (by simpa using h)
  · repeat' (first | (simp -dsimp only [↓reduceIte, go_sem]) | (refine arr_intro fun _ => ?_) | (refine later_intro ⟨keeps_nil, ?_⟩) | (refine later_intro ⟨keeps_refl, ?_⟩) | (with_reducible refine keeps_go ?_ ?_; focus (simp [keeps_cons, keeps_none, objs_app, objs_app0]; done)) | (refine both_ways ?_ ?_) | (rw [wrap_i64 (by omega) (by omega)]) | (refine guardV_split (fun h => ?_) (fun h => ?_) <;> (try rw [h]) <;> (try simp at h) <;> (try (exfalso; omega))))
    exact ⟨Ext.app _ _, rfl, by simpa [AV.strip] using hK⟩
def numbB (n : Int) (t : List UInt8) : List UInt8 := numS n ++ textS (if 16384 < t.length then [] else t)
theorem cut_len {t : List UInt8} : (if 16384 < t.length then [] else t).length ≤ 16384 := by split <;> (try simp) <;> omega
theorem numbered_c {n : Int} {t : List UInt8} (hn : Rng n) {σ : AST} {K : AV → AST → Prop} (hK : K (.str (numbB n t)) σ) : TCalls Try.prog 56 [.int .i64 n, .str t] σ K := by
  refine TCalls.drop ?_
  have hl := numS_len hn.1 hn.2
  have hl2 := textS_le (cut_len (t := t)) (Nat.le_refl _)
  have hi : InI [n] := by intro y hy; simp at hy; subst hy; exact hn
  refine tcalls_walk Try.f56 _ [.tmp 4] Try.func56 rfl rfl rfl mixed (Nat.le_of_ble_eq_true rfl) rfl fun hlen => ?_
  repeat' (first | (simp -dsimp only [↓reduceIte, go_sem]) | (refine arr_intro fun _ => ?_) | (refine later_intro ⟨keeps_nil, ?_⟩) | (refine later_intro ⟨keeps_refl, ?_⟩) | (with_reducible refine keeps_go ?_ ?_; focus (simp [keeps_cons, keeps_none, objs_app, objs_app0]; done)) | (refine both_ways ?_ ?_) | (rw [wrap_i64 (by omega) (by omega)]) | (refine guardV_split (fun h => ?_) (fun h => ?_) <;> (try rw [h]) <;> (try simp at h) <;> (try (exfalso; omega))))
  refine side_later (by intro y hy; simp only [List.mem_cons, List.not_mem_nil, or_false] at hy; rcases hy with rfl | rfl <;> simp [go_sem]) ?_
  repeat' (first | (simp -dsimp only [↓reduceIte, go_sem]) | (refine arr_intro fun _ => ?_) | (refine later_intro ⟨keeps_nil, ?_⟩) | (refine later_intro ⟨keeps_refl, ?_⟩) | (with_reducible refine keeps_go ?_ ?_; focus (simp [keeps_cons, keeps_none, objs_app, objs_app0]; done)) | (refine both_ways ?_ ?_) | (rw [wrap_i64 (by omega) (by omega)]) | (refine guardV_split (fun h => ?_) (fun h => ?_) <;> (try rw [h]) <;> (try simp at h) <;> (try (exfalso; omega))))
  have hx0 : Ext σ (σ.app [.cells (.int .i64 n), .cells (.str t)]) := Ext.app _ _
  have hk00 : σ.objs.length ≤ σ.objs.length := Nat.le_refl _
  generalize hk0 : σ.objs.length = k0 at hk00
  refine made2_c (σ0 := σ) (B := numbB n t) (F := [(k0 + 1, .cells (.str t)), (k0, .cells (.int .i64 n))]) hx0 ?_ (by simp only [numbB, List.length_append]; omega) ?_ ?_
  · intro y hy
    subst hk0
    simp only [List.mem_cons, List.not_mem_nil, or_false] at hy
    rcases hy with rfl | rfl <;> simp [AST.app]
  · intro s j K' h hK'
    have c0 := h.cell (k := k0) (v := .int .i64 n) (by simp)
    refine tcalls_walk Try.f78 _ [] Try.func78 rfl rfl rfl mixed (Nat.le_of_ble_eq_true rfl) rfl fun hlen => ?_
    repeat' (first | (simp -dsimp only [↓reduceIte, go_sem, c0]) | (refine arr_intro fun _ => ?_) | (refine later_intro ⟨keeps_nil, ?_⟩) | (refine later_intro ⟨keeps_refl, ?_⟩) | (with_reducible refine keeps_go ?_ ?_; focus (simp [keeps_cons, keeps_none, objs_app, objs_app0]; done)) | (refine both_ways ?_ ?_) | (rw [wrap_i64 (by omega) (by omega)]) | (refine guardV_split (fun h => ?_) (fun h => ?_) <;> (try rw [h]) <;> (try simp at h) <;> (try (exfalso; omega))) | (refine bI1 ?_))
    refine wInts_c 1 (l := [n]) hi (by simp) (by omega) (by simp) h fun s h b => ?_
    have c1 := h.cell (k := k0 + 1) (List.mem_cons_self ..)
    have o1 := (h.f (k0 + 1, .cells (.str t)) (by simp)).2
    dsimp only at o1
    have hkl := (List.getElem?_eq_some_iff.1 o1).1
    have hW := h
    clear h
    by_cases hbig : 16384 < t.length
    · have eB : numbB n t = numS n ++ textS [] := by simp [numbB, hbig]
      rw [eB] at hK'
      repeat' (first | (simp -dsimp only [↓reduceIte, go_sem, c1, o1, cellAt_setS, objs_setS, hkl]) | (refine arr_intro fun _ => ?_) | (refine later_intro ⟨keeps_nil, ?_⟩) | (refine later_intro ⟨keeps_refl, ?_⟩) | (with_reducible refine keeps_go ?_ ?_; focus (simp [keeps_cons, keeps_none, objs_app, objs_app0]; done)) | (refine both_ways ?_ ?_) | (rw [wrap_i64 (by omega) (by omega)]) | (refine guardV_split (fun h => ?_) (fun h => ?_) <;> (try rw [h]) <;> (try simp at h) <;> (try (exfalso; omega))))
      refine wText_c 0 (by simp) (by omega) (by simp only [List.length_nil, List.nil_append] at b ⊢; omega) (hW.upd (by omega)) fun s hW b => ?_
      repeat' (first | (simp -dsimp only [↓reduceIte, go_sem]) | (refine arr_intro fun _ => ?_) | (refine later_intro ⟨keeps_nil, ?_⟩) | (refine later_intro ⟨keeps_refl, ?_⟩) | (with_reducible refine keeps_go ?_ ?_; focus (simp [keeps_cons, keeps_none, objs_app, objs_app0]; done)) | (refine both_ways ?_ ?_) | (rw [wrap_i64 (by omega) (by omega)]) | (refine guardV_split (fun h => ?_) (fun h => ?_) <;> (try rw [h]) <;> (try simp at h) <;> (try (exfalso; omega))))
      exact hK' s ((hW.mono (by simp)).eqn (by simp))
    · have eB : numbB n t = numS n ++ textS t := by simp [numbB, hbig]
      rw [eB] at hK'
      repeat' (first | (simp -dsimp only [↓reduceIte, go_sem, c1, o1, cellAt_setS, objs_setS, hkl]) | (refine arr_intro fun _ => ?_) | (refine later_intro ⟨keeps_nil, ?_⟩) | (refine later_intro ⟨keeps_refl, ?_⟩) | (with_reducible refine keeps_go ?_ ?_; focus (simp [keeps_cons, keeps_none, objs_app, objs_app0]; done)) | (refine both_ways ?_ ?_) | (rw [wrap_i64 (by omega) (by omega)]) | (refine guardV_split (fun h => ?_) (fun h => ?_) <;> (try rw [h]) <;> (try simp at h) <;> (try (exfalso; omega))))
      refine wText_c 16384 (by omega) (by omega) (by simp only [List.length_nil, List.nil_append] at b ⊢; omega) hW fun s hW b => ?_
      repeat' (first | (simp -dsimp only [↓reduceIte, go_sem]) | (refine arr_intro fun _ => ?_) | (refine later_intro ⟨keeps_nil, ?_⟩) | (refine later_intro ⟨keeps_refl, ?_⟩) | (with_reducible refine keeps_go ?_ ?_; focus (simp [keeps_cons, keeps_none, objs_app, objs_app0]; done)) | (refine both_ways ?_ ?_) | (rw [wrap_i64 (by omega) (by omega)]) | (refine guardV_split (fun h => ?_) (fun h => ?_) <;> (try rw [h]) <;> (try simp at h) <;> (try (exfalso; omega))))
      exact hK' s ((hW.mono (by simp)).eqn (by simp))
  · intro s hx
    repeat' (first | (simp -dsimp only [↓reduceIte, go_sem]) | (refine arr_intro fun _ => ?_) | (refine later_intro ⟨keeps_nil, ?_⟩) | (refine later_intro ⟨keeps_refl, ?_⟩) | (with_reducible refine keeps_go ?_ ?_; focus (simp [keeps_cons, keeps_none, objs_app, objs_app0]; done)) | (refine both_ways ?_ ?_) | (rw [wrap_i64 (by omega) (by omega)]) | (refine guardV_split (fun h => ?_) (fun h => ?_) <;> (try rw [h]) <;> (try simp at h) <;> (try (exfalso; omega))))
    exact ⟨hx, rfl, by simpa [AV.strip] using hK⟩
theorem data_c {n : Int} {t : List UInt8} (hn : Rng n) {σ : AST} {K : AV → AST → Prop} (hK : K (.str (numbB n t)) σ) : TCalls Try.prog 19 [.int .i64 n, .str t] σ K := by
  refine tcalls_walk Try.f19 _ [.tmp 4] Try.func19 rfl rfl rfl mixed (Nat.le_of_ble_eq_true rfl) rfl fun hlen => ?_
  repeat' (first | (simp -dsimp only [↓reduceIte, go_sem]) | (refine arr_intro fun _ => ?_) | (refine later_intro ⟨keeps_nil, ?_⟩) | (refine later_intro ⟨keeps_refl, ?_⟩) | (with_reducible refine keeps_go ?_ ?_; focus (simp [keeps_cons, keeps_none, objs_app, objs_app0]; done)) | (refine both_ways ?_ ?_) | (rw [wrap_i64 (by omega) (by omega)]) | (refine guardV_split (fun h => ?_) (fun h => ?_) <;> (try rw [h]) <;> (try simp at h) <;> (try (exfalso; omega))) | (refine numbered_c hn ?_))
  exact hK
theorem blobText_c {n : Int} {t : List UInt8} (hn : Rng n) {σ : AST} {K : AV → AST → Prop} (hK : K (.str (numbB n t)) σ) : TCalls Try.prog 22 [.int .i64 n, .str t] σ K := by
  refine tcalls_walk Try.f22 _ [.tmp 4] Try.func22 rfl rfl rfl mixed (Nat.le_of_ble_eq_true rfl) rfl fun hlen => ?_
  repeat' (first | (simp -dsimp only [↓reduceIte, go_sem]) | (refine arr_intro fun _ => ?_) | (refine later_intro ⟨keeps_nil, ?_⟩) | (refine later_intro ⟨keeps_refl, ?_⟩) | (with_reducible refine keeps_go ?_ ?_; focus (simp [keeps_cons, keeps_none, objs_app, objs_app0]; done)) | (refine both_ways ?_ ?_) | (rw [wrap_i64 (by omega) (by omega)]) | (refine guardV_split (fun h => ?_) (fun h => ?_) <;> (try rw [h]) <;> (try simp at h) <;> (try (exfalso; omega))) | (refine numbered_c hn ?_))
  exact hK
theorem version_c {n : Int} {t : List UInt8} (hn : Rng n) {σ : AST} {K : AV → AST → Prop} (hK : K (.str (numbB n t)) σ) : TCalls Try.prog 23 [.int .i64 n, .str t] σ K := by
  refine tcalls_walk Try.f23 _ [.tmp 4] Try.func23 rfl rfl rfl mixed (Nat.le_of_ble_eq_true rfl) rfl fun hlen => ?_
  repeat' (first | (simp -dsimp only [↓reduceIte, go_sem]) | (refine arr_intro fun _ => ?_) | (refine later_intro ⟨keeps_nil, ?_⟩) | (refine later_intro ⟨keeps_refl, ?_⟩) | (with_reducible refine keeps_go ?_ ?_; focus (simp [keeps_cons, keeps_none, objs_app, objs_app0]; done)) | (refine both_ways ?_ ?_) | (rw [wrap_i64 (by omega) (by omega)]) | (refine guardV_split (fun h => ?_) (fun h => ?_) <;> (try rw [h]) <;> (try simp at h) <;> (try (exfalso; omega))) | (refine numbered_c hn ?_))
  exact hK
theorem refAsked_c {n : Int} {x : Sub} (hn : InI [n, x.num, x.kind, x.target]) {σ : AST} {K : AV → AST → Prop} (hK : K (.str ([n, x.num, x.kind, x.target].flatMap numS)) σ) : TCalls Try.prog 20 [.int .i64 n, subV x] σ K := by
  refine TCalls.drop ?_
  refine tcalls_walk Try.f20 _ [.tmp 4] Try.func20 rfl rfl rfl mixed (Nat.le_of_ble_eq_true rfl) rfl fun hlen => ?_
  repeat' (first | (simp -dsimp only [↓reduceIte, go_sem]) | (refine arr_intro fun _ => ?_) | (refine later_intro ⟨keeps_nil, ?_⟩) | (refine later_intro ⟨keeps_refl, ?_⟩) | (with_reducible refine keeps_go ?_ ?_; focus (simp [keeps_cons, keeps_none, objs_app, objs_app0]; done)) | (refine both_ways ?_ ?_) | (rw [wrap_i64 (by omega) (by omega)]) | (refine guardV_split (fun h => ?_) (fun h => ?_) <;> (try rw [h]) <;> (try simp at h) <;> (try (exfalso; omega))) | (refine bI4 ?_) | (refine refInts4_c hn ?_))
  exact ⟨Ext.app _ _, rfl, by simpa [AV.strip] using hK⟩
theorem refNumbered_c {n : Int} {t : List UInt8} (hn : Rng n) {σ : AST} {K : AV → AST → Prop} (hK : K (.str (numbB n t)) σ) : TCalls Try.prog 21 [.int .i64 n, .str t] σ K := by
  have hl := numS_len hn.1 hn.2
  have hl2 := textS_le (cut_len (t := t)) (Nat.le_refl _)
  unfold numbB at hK
  refine tcalls_walk Try.f21 _ [.tmp 4] Try.func21 rfl rfl rfl mixed (Nat.le_of_ble_eq_true rfl) rfl fun hlen => ?_
  by_cases hbig : 16384 < t.length
  · rw [if_pos hbig] at hl2 hK
    repeat' (first | (simp -dsimp only [↓reduceIte, go_sem, hbig]) | (refine arr_intro fun _ => ?_) | (refine later_intro ⟨keeps_nil, ?_⟩) | (refine later_intro ⟨keeps_refl, ?_⟩) | (with_reducible refine keeps_go ?_ ?_; focus (simp [keeps_cons, keeps_none, objs_app, objs_app0]; done)) | (refine both_ways ?_ ?_) | (rw [wrap_i64 (by omega) (by omega)]) | (refine guardV_split (fun h => ?_) (fun h => ?_) <;> (try rw [h]) <;> (try simp at h) <;> (try (exfalso; omega))) | (refine L01.Number_c hn.1 hn.2 ?_) | (refine refText_c (by simp) ?_) | (with_reducible refine side_later (by (simp only [maxL, List.length_append, List.length_cons, List.length_nil] at *; omega)) ?_))
    exact hK
  · rw [if_neg hbig] at hl2 hK
    repeat' (first | (simp -dsimp only [↓reduceIte, go_sem, hbig]) | (refine arr_intro fun _ => ?_) | (refine later_intro ⟨keeps_nil, ?_⟩) | (refine later_intro ⟨keeps_refl, ?_⟩) | (with_reducible refine keeps_go ?_ ?_; focus (simp [keeps_cons, keeps_none, objs_app, objs_app0]; done)) | (refine both_ways ?_ ?_) | (rw [wrap_i64 (by omega) (by omega)]) | (refine guardV_split (fun h => ?_) (fun h => ?_) <;> (try rw [h]) <;> (try simp at h) <;> (try (exfalso; omega))) | (refine L01.Number_c hn.1 hn.2 ?_) | (refine refText_c (by omega) ?_) | (with_reducible refine side_later (by (simp only [maxL, List.length_append, List.length_cons, List.length_nil] at *; omega)) ?_))
    exact hK
theorem msgTexts_c {n : Int} {t : List UInt8} {x : Sub} (hn : InI [n, x.num, x.kind, x.target]) {σ : AST} {K : AV → AST → Prop} (hK : K (.bool true) σ) : TCalls Try.prog 8 [.int .i64 n, .str t, subV x] σ K := by
  have hr : Rng n := hn n (by simp)
  refine TCalls.drop ?_
  refine tcalls_walk Try.f8 _ [.tmp 6] Try.func8 rfl rfl rfl mixed (Nat.le_of_ble_eq_true rfl) rfl fun hlen => ?_
  repeat' (first | (simp -dsimp only [↓reduceIte, go_sem]) | (refine arr_intro fun _ => ?_) | (refine later_intro ⟨keeps_nil, ?_⟩) | (refine later_intro ⟨keeps_refl, ?_⟩) | (with_reducible refine keeps_go ?_ ?_; focus (simp [keeps_cons, keeps_none, objs_app, objs_app0]; done)) | (refine both_ways ?_ ?_) | (rw [wrap_i64 (by omega) (by omega)]) | (refine guardV_split (fun h => ?_) (fun h => ?_) <;> (try rw [h]) <;> (try simp at h) <;> (try (exfalso; omega))) | (with_reducible refine awp_drawS (id := 1) [0, 1, 2, 3, 5, 6, 4, 7, 8, 9, 10, 11, 12, 14, 15, 13, 16, 17, 18, 19, 20, 21, 23, 24, 22, 25, 26, 27, 28, 29, 30, 32, 33, 31, 34, 35, 36, 37] (by kernel_rfl) ?_) | (refine awake_c ?_) | (refine asked_c hn ?_) | (refine refAsked_c hn ?_) | (refine data_c hr ?_) | (refine blobText_c hr ?_) | (refine version_c hr ?_) | (refine refNumbered_c hr ?_))
  exact ⟨Ext.app _ _, rfl, by simpa [AV.strip] using hK⟩
end Go.Aff.L10

/- Layer 10, walked: MsgApart. -/
-- cuts
namespace Go.Aff.L10
open Go.Proofs Go.Aff Go.Aff.L01 Classical
set_option linter.unusedVariables false
set_option linter.unusedSimpArgs false
set_option maxRecDepth 20000
attribute [local go_sem] push_app app_app length_app cellAt_app cellAt_app0 set_app set_app0 objs_app objs_app0 List.cons_append List.nil_append List.length_cons List.length_nil List.getElem?_cons_zero List.getElem?_cons_succ List.set_cons_zero List.set_cons_succ List.length_map
attribute [-go_sem] cellAt_new
attribute [-simp] List.length_flatMap
attribute [local go_sem] Try.underlying3 Try.underlying4 Try.underlying5 Try.underlying9 Try.underlying22 Try.underlying23 Try.underlying26 Try.underlying31 Try.underlying34 Try.underlying52 subPs_0 subAt_0 subSet_0 subPs_1 subAt_1 subSet_1 subPs_2 subAt_2 subSet_2 subPs_3 subAt_3 subSet_3 subPs_4 subAt_4 subSet_4 subPs_5 subAt_5 subSet_5 sizes_sub shapes_sub fits_sub zero_sub zt_sub built_sub Try.underlying25 pendPs_0 pendAt_0 pendSet_0 pendPs_1 pendAt_1 pendSet_1 pendPs_2 pendAt_2 pendSet_2 pendPs_3 pendAt_3 pendSet_3 pendPs_4 pendAt_4 pendSet_4 pendPs_5 pendAt_5 pendSet_5 sizes_pend shapes_pend fits_pend zero_pend zt_pend built_pend Try.underlying98 repPs_0 repAt_0 repSet_0 repPs_1 repAt_1 repSet_1 repPs_2 repAt_2 repSet_2 repPs_3 repAt_3 repSet_3 repPs_4 repAt_4 repSet_4 repPs_5 repAt_5 repSet_5 repPs_6 repAt_6 repSet_6 repPs_7 repAt_7 repSet_7 repPs_8 repAt_8 repSet_8 repPs_9 repAt_9 repSet_9 sizes_rep shapes_rep fits_rep zero_rep zt_rep built_rep Try.underlying28 blobPs_0 blobAt_0 blobSet_0 blobPs_1 blobAt_1 blobSet_1 blobPs_2 blobAt_2 blobSet_2 blobPs_3 blobAt_3 blobSet_3 sizes_blob shapes_blob fits_blob zero_blob zt_blob built_blob Try.underlying30 msgPs_0 msgAt_0 msgSet_0 msgPs_1 msgAt_1 msgSet_1 msgPs_2 msgAt_2 msgSet_2 msgPs_3 msgAt_3 msgSet_3 msgPs_4 msgAt_4 msgSet_4 msgPs_5 msgAt_5 msgSet_5 msgPs_6 msgAt_6 msgSet_6 msgPs_7 msgAt_7 msgSet_7 msgPs_8 msgAt_8 msgSet_8 msgPs_9 msgAt_9 msgSet_9 sizes_msg shapes_msg fits_msg zero_msg zt_msg built_msg Try.underlying33 at_Ps_0 at_At_0 at_Set_0 at_Ps_1 at_At_1 at_Set_1 sizes_at_ shapes_at_ fits_at_ zero_at_ zt_at_ built_at_ Try.underlying77
attribute [local go_sem] fits3 fits4 fits5 fits9 fits23 fits26 fits31 fits34 fits52 zt3 zero3 zt34 zero34 zt23 zero23 bin_sub_eql bin_pend_eql bin_pend_neq bin_blob_eql bin_dig23_eql bin_dig23_neq slice23
attribute [local go_sem ↓] blockQ_exit2
attribute [local simp] dig_ext
attribute [local go_sem] rdrPs_0 rdrAt_0 rdrSet_0 rdrPs_1 rdrAt_1 rdrSet_1 rdrPs_2 rdrAt_2 rdrSet_2 sizes_rdr shapes_rdr fits_rdr zero_rdr zt_rdr built_rdr Try.underlying72 Try.underlying70 Try.underlying75 bin_bool_ne appc appn built23

structure Cmp where
  a : Sub
  b : Sub
  n : Int
  m : Int
  x : List UInt8
  y : List UInt8
def cmp0 : Cmp := ⟨sub0, sub0, 0, 0, [], []⟩
def cmpPs (x : Cmp) : List AV := [.agg (subPs x.a), .agg (subPs x.b), .int .i64 x.n, .int .i64 x.m, .str x.x, .str x.y]
abbrev cmpV (x : Cmp) : AV := .agg (cmpPs x)
theorem cmpPs_0 {x : Cmp} : (cmpPs x)[0]? = some (.agg (subPs x.a)) := nr rfl
theorem cmpAt_0 {x : Cmp} {v : AV} : partIs Try.prog 46 (cmpPs x) 0 v = fits Try.prog 25 v := by rw [partIs_of (o := 0) (T := 25) (by kernel_rfl)]; simp [cmpPs, AV.sizes, AV.size]
theorem cmpSet_0 {x : Cmp} {y : Sub} : (cmpPs x).set 0 (.agg (subPs y)) = cmpPs { x with a := y } := nr rfl
theorem cmpPs_1 {x : Cmp} : (cmpPs x)[1]? = some (.agg (subPs x.b)) := nr rfl
theorem cmpAt_1 {x : Cmp} {v : AV} : partIs Try.prog 46 (cmpPs x) 1 v = fits Try.prog 25 v := by rw [partIs_of (o := 68) (T := 25) (by kernel_rfl)]; simp [cmpPs, AV.sizes, AV.size, sizes_sub]
theorem cmpSet_1 {x : Cmp} {y : Sub} : (cmpPs x).set 1 (.agg (subPs y)) = cmpPs { x with b := y } := nr rfl
theorem cmpPs_2 {x : Cmp} : (cmpPs x)[2]? = some (.int .i64 x.n) := nr rfl
theorem cmpAt_2 {x : Cmp} {v : AV} : partIs Try.prog 46 (cmpPs x) 2 v = fits Try.prog 3 v := by rw [partIs_of (o := 136) (T := 3) (by kernel_rfl)]; simp [cmpPs, AV.sizes, AV.size, sizes_sub, sizes_sub]
theorem cmpSet_2 {x : Cmp} {y : Int} : (cmpPs x).set 2 (.int .i64 y) = cmpPs { x with n := y } := nr rfl
theorem cmpPs_3 {x : Cmp} : (cmpPs x)[3]? = some (.int .i64 x.m) := nr rfl
theorem cmpAt_3 {x : Cmp} {v : AV} : partIs Try.prog 46 (cmpPs x) 3 v = fits Try.prog 3 v := by rw [partIs_of (o := 137) (T := 3) (by kernel_rfl)]; simp [cmpPs, AV.sizes, AV.size, sizes_sub, sizes_sub]
theorem cmpSet_3 {x : Cmp} {y : Int} : (cmpPs x).set 3 (.int .i64 y) = cmpPs { x with m := y } := nr rfl
theorem cmpPs_4 {x : Cmp} : (cmpPs x)[4]? = some (.str x.x) := nr rfl
theorem cmpAt_4 {x : Cmp} {v : AV} : partIs Try.prog 46 (cmpPs x) 4 v = fits Try.prog 9 v := by rw [partIs_of (o := 138) (T := 9) (by kernel_rfl)]; simp [cmpPs, AV.sizes, AV.size, sizes_sub, sizes_sub]
theorem cmpSet_4 {x : Cmp} {y : List UInt8} : (cmpPs x).set 4 (.str y) = cmpPs { x with x := y } := nr rfl
theorem cmpPs_5 {x : Cmp} : (cmpPs x)[5]? = some (.str x.y) := nr rfl
theorem cmpAt_5 {x : Cmp} {v : AV} : partIs Try.prog 46 (cmpPs x) 5 v = fits Try.prog 9 v := by rw [partIs_of (o := 139) (T := 9) (by kernel_rfl)]; simp [cmpPs, AV.sizes, AV.size, sizes_sub, sizes_sub]
theorem cmpSet_5 {x : Cmp} {y : List UInt8} : (cmpPs x).set 5 (.str y) = cmpPs { x with y := y } := nr rfl
theorem sizes_cmp {x : Cmp} : AV.sizes (cmpPs x) = 140 := by simp [cmpPs, AV.sizes, AV.size, sizes_sub, sizes_sub]
theorem shapes_cmp {x : Cmp} : AV.shapes (cmpPs x) = [.node [.leaf, .leaf, .leaf, .leaf, .dig, .dig], .node [.leaf, .leaf, .leaf, .leaf, .dig, .dig], .leaf, .leaf, .leaf, .leaf] := by simp [cmpPs, AV.shapes, AV.shape, shapes_sub, shapes_sub]
theorem fits_cmp {v : AV} : fits Try.prog 46 v = (v.isAgg = true ∧ v.size = 140) := fits_agg (by kernel_rfl) (by kernel_rfl)
theorem zero_cmp : zeroA Try.prog 12 46 = .agg (cmpPs cmp0) := by kernel_rfl
theorem zt_cmp : ZeroOf Try.prog 46 (.agg (cmpPs cmp0)) = True := eq_true ⟨_, _, rfl, rfl, rfl, rfl, rfl⟩
theorem built_cmp : Built Try.prog 46 = True := eq_true (by unfold Built; rw [Try.underlying46]; decide +kernel)
theorem strip_cmp {x : Cmp} : AV.strips (cmpPs x) = cmpPs x := by simp [cmpPs, AV.strips, AV.strip, strip_sub, strip_sub]
theorem noRef_cmp {x : Cmp} : AV.noRefs (cmpPs x) = true := by simp [cmpPs, AV.noRefs, AV.noRef, noRef_sub, noRef_sub]

attribute [local go_sem] cmpPs_0 cmpAt_0 cmpSet_0 cmpPs_1 cmpAt_1 cmpSet_1 cmpPs_2 cmpAt_2 cmpSet_2 cmpPs_3 cmpAt_3 cmpSet_3 cmpPs_4 cmpAt_4 cmpSet_4 cmpPs_5 cmpAt_5 cmpSet_5 sizes_cmp shapes_cmp fits_cmp zero_cmp zt_cmp built_cmp Try.underlying46
theorem numS_apart {a b : Int} {x y : List UInt8} (ha : Rng a) (hb : Rng b) (h : numS a ++ x = numS b ++ y) : a = b ∧ x = y := by
  have h1 := num_back (x := []) (y := x) ha.1 ha.2
  have h2 := num_back (x := []) (y := y) hb.1 hb.2
  simp only [List.nil_append] at h1 h2
  rw [h, h2] at h1
  have e : b = a := congrArg Prod.fst h1
  subst e
  exact ⟨rfl, List.append_cancel_left h⟩
theorem textS_apart {s t : List UInt8} (hs : s.length ≤ 16384) (ht : t.length ≤ 16384) (h : textS s = textS t) : s = t := by
  have h1 := text_back (x := []) (y := []) (t := s) (by omega)
  have h2 := text_back (x := []) (y := []) (t := t) (by omega)
  simp only [List.nil_append, List.append_nil] at h1 h2
  rw [h, h2] at h1
  exact (congrArg Prod.fst h1).symm
theorem asked_apart {n m : Int} {a b : Sub} (ha : InI [n, a.num, a.kind, a.target]) (hb : InI [m, b.num, b.kind, b.target]) : ([n, a.num, a.kind, a.target].flatMap numS = [m, b.num, b.kind, b.target].flatMap numS) ↔ n = m ∧ a.num = b.num ∧ a.kind = b.kind ∧ a.target = b.target := by
  constructor
  · intro h
    simp only [List.flatMap_cons, List.flatMap_nil] at h
    obtain ⟨e1, h⟩ := numS_apart (ha _ (by simp)) (hb _ (by simp)) h
    obtain ⟨e2, h⟩ := numS_apart (ha _ (by simp)) (hb _ (by simp)) h
    obtain ⟨e3, h⟩ := numS_apart (ha _ (by simp)) (hb _ (by simp)) h
    obtain ⟨e4, h⟩ := numS_apart (ha _ (by simp)) (hb _ (by simp)) h
    exact ⟨e1, e2, e3, e4⟩
  · rintro ⟨e1, e2, e3, e4⟩; rw [e1, e2, e3, e4]
theorem numb_apart {n m : Int} {s t : List UInt8} (hn : Rng n) (hm : Rng m) (hs : s.length ≤ 16384) (ht : t.length ≤ 16384) : (numbB n s = numbB m t) ↔ n = m ∧ s = t := by
  unfold numbB
  rw [if_neg (by omega), if_neg (by omega)]
  constructor
  · intro h
    obtain ⟨e1, h⟩ := numS_apart hn hm h
    exact ⟨e1, textS_apart hs ht h⟩
  · rintro ⟨rfl, rfl⟩; rfl
theorem beq_dec {α : Type} [BEq α] [LawfulBEq α] {a b : α} : (a == b) = decide (a = b) := by rw [Bool.eq_iff_iff]; simp
theorem msgApart_c {c : Cmp} (ha : InI [c.n, c.a.num, c.a.kind, c.a.target]) (hb : InI [c.m, c.b.num, c.b.kind, c.b.target]) {σ : AST} {K : AV → AST → Prop} (hK : K (.bool true) σ) : TCalls Try.prog 7 [cmpV c] σ K := by
  have hn : Rng c.n := ha _ (by simp)
  have hm : Rng c.m := hb _ (by simp)
  refine TCalls.drop ?_
  refine tcalls_walk Try.f7 _ [.tmp 2] Try.func7 rfl rfl rfl mixed (Nat.le_of_ble_eq_true rfl) rfl fun hlen => ?_
  repeat' (first | (simp -dsimp only [↓reduceIte, go_sem]) | (refine arr_intro fun _ => ?_) | (refine later_intro ⟨keeps_nil, ?_⟩) | (refine later_intro ⟨keeps_refl, ?_⟩) | (with_reducible refine keeps_go ?_ ?_; focus (simp [keeps_cons, keeps_none, objs_app, objs_app0]; done)) | (refine both_ways ?_ ?_) | (rw [wrap_i64 (by omega) (by omega)]) | (refine guardV_split (fun h => ?_) (fun h => ?_) <;> (try rw [h]) <;> (try simp at h) <;> (try (exfalso; omega))) | (with_reducible refine awp_drawT (id := 1) (.op 0 0 (.op 1 0 (.op 2 0 (.op 3 0 (.op 4 0 (.op 5 0 (.op 6 0 (.op 7 0 (.op 8 0 (.op 9 0 (.op 10 0 (.op 11 0 (.fork 12 (.op 12 1 (.op 13 1 (.op 14 1 (.op 15 1 (.op 16 2 (.op 17 2 (.op 18 2 (.op 19 2 .nil)))))))) (.op 13 1 (.op 12 1 (.op 14 1 (.op 15 1 (.op 16 2 (.op 17 2 (.op 18 2 (.op 19 2 .nil))))))))))))))))))))) (by kernel_rfl) ?_) | (refine awake_c ?_) | (with_reducible refine awp_drawS (id := 5) [0, 1, 2, 3, 5, 6, 9, 4, 7, 8, 10, 11, 12, 13, 14, 16, 17, 20, 21, 22, 15, 18, 19, 23, 24, 25, 26, 27, 28, 29, 30] (by kernel_rfl) ?_) | (refine asked_c ha ?_) | (refine asked_c hb ?_) | (refine data_c hn ?_) | (refine data_c hm ?_))
  all_goals
    have fin : ∀ (b : Bool) (l : List AObj), b = true → Ext σ (σ.app l) ∧ (AV.bool b).noRef = true ∧ K (AV.bool b).strip σ := fun b l h => by subst h; exact ⟨Ext.app _ _, rfl, by simpa [AV.strip] using hK⟩
    have hA := asked_apart ha hb
    simp only [List.flatMap_cons, List.flatMap_nil, List.append_nil] at hA
    refine fin _ _ ?_
    first
      | rfl
      | (exfalso; simp_all <;> fail)
      | (exfalso
         rename_i h
         simp only [beq_dec, hA] at h
         simp_all <;> fail)
      | (have hB := numb_apart hn hm (s := c.x) (t := c.y) (by omega) (by omega)
         simp only [beq_dec, hB]
         simp_all <;> fail)
end Go.Aff.L10

/- Layer 10: what an argument's shape says of a message. -/
namespace Go.Aff.L10
open Go.Proofs Go.Aff Go.Aff.L01 Classical
set_option linter.unusedVariables false
set_option maxRecDepth 20000

theorem sh_ints {n : Nat} {v : AV} (h : ShT Try.prog (n + 2) 31 v) : ∃ (tk : Tk) (l : List Int), v = .slice tk (l.map (AV.int .i64)) := by
  obtain ⟨tk, xs, rfl, e⟩ := sh_slice (n := n + 1) (t := 31) Try.underlying31 h
  obtain ⟨l, rfl, _⟩ := map_of (f := AV.int .i64) (p := fun _ => True) (fun x hx => by obtain ⟨i, rfl, _, _⟩ := sh_int (n := n) (t := 3) Try.underlying3 (e x hx); exact ⟨i, rfl, trivial⟩)
  exact ⟨tk, l, rfl⟩
theorem sh_pend {n : Nat} {v : AV} (h : ShT Try.prog (n + 9) 98 v) : ∃ y : Pend, v = pendV y ∧ True := by
  obtain ⟨ps, rfl, hps⟩ := sh_struct (n := n + 8) Try.underlying98 h
  obtain ⟨p0, r, rfl, h0, hps⟩ := shTs_cons (n := n + 7) hps
  obtain ⟨p1, r, rfl, h1, hps⟩ := shTs_cons (n := n + 6) hps
  obtain ⟨p2, r, rfl, h2, hps⟩ := shTs_cons (n := n + 5) hps
  obtain ⟨p3, r, rfl, h3, hps⟩ := shTs_cons (n := n + 4) hps
  obtain ⟨p4, r, rfl, h4, hps⟩ := shTs_cons (n := n + 3) hps
  obtain ⟨p5, r, rfl, h5, hps⟩ := shTs_cons (n := n + 2) hps
  obtain rfl := shTs_nil hps
  obtain ⟨a, rfl, _, _⟩ := sh_int (t := 3) Try.underlying3 h0
  obtain ⟨b, rfl, _, _⟩ := sh_int (t := 3) Try.underlying3 h1
  obtain ⟨c, rfl, _, _⟩ := sh_int (t := 3) Try.underlying3 h2
  obtain ⟨d, rfl, _, _⟩ := sh_int (t := 3) Try.underlying3 h3
  obtain ⟨e, rfl⟩ := sh_dig (t := 23) Try.underlying23 h4
  obtain ⟨f, rfl⟩ := sh_dig (t := 23) Try.underlying23 h5
  exact ⟨⟨a, b, c, d, e, f⟩, rfl, trivial⟩
theorem sh_sub {n : Nat} {v : AV} (h : ShT Try.prog (n + 9) 25 v) : ∃ y : Sub, v = subV y := by
  obtain ⟨ps, rfl, hps⟩ := sh_struct (n := n + 8) Try.underlying25 h
  obtain ⟨p0, r, rfl, h0, hps⟩ := shTs_cons (n := n + 7) hps
  obtain ⟨p1, r, rfl, h1, hps⟩ := shTs_cons (n := n + 6) hps
  obtain ⟨p2, r, rfl, h2, hps⟩ := shTs_cons (n := n + 5) hps
  obtain ⟨p3, r, rfl, h3, hps⟩ := shTs_cons (n := n + 4) hps
  obtain ⟨p4, r, rfl, h4, hps⟩ := shTs_cons (n := n + 3) hps
  obtain ⟨p5, r, rfl, h5, hps⟩ := shTs_cons (n := n + 2) hps
  obtain rfl := shTs_nil hps
  obtain ⟨a, rfl, _, _⟩ := sh_int (t := 3) Try.underlying3 h0
  obtain ⟨b, rfl, _, _⟩ := sh_int (t := 3) Try.underlying3 h1
  obtain ⟨c, rfl, _, _⟩ := sh_int (t := 3) Try.underlying3 h2
  obtain ⟨d, rfl⟩ := sh_str (t := 9) Try.underlying9 h3
  obtain ⟨e, rfl⟩ := sh_dig (t := 23) Try.underlying23 h4
  obtain ⟨f, rfl⟩ := sh_dig (t := 23) Try.underlying23 h5
  exact ⟨⟨a, b, c, d, e, f⟩, rfl⟩
theorem sh_blob {n : Nat} {v : AV} (h : ShT Try.prog (n + 9) 30 v) : ∃ y : Blob, v = blobV y := by
  obtain ⟨ps, rfl, hps⟩ := sh_struct (n := n + 8) Try.underlying30 h
  obtain ⟨p0, r, rfl, h0, hps⟩ := shTs_cons (n := n + 7) hps
  obtain ⟨p1, r, rfl, h1, hps⟩ := shTs_cons (n := n + 6) hps
  obtain ⟨p2, r, rfl, h2, hps⟩ := shTs_cons (n := n + 5) hps
  obtain ⟨p3, r, rfl, h3, hps⟩ := shTs_cons (n := n + 4) hps
  obtain rfl := shTs_nil hps
  obtain ⟨a, rfl, _, _⟩ := sh_int (t := 3) Try.underlying3 h0
  obtain ⟨b, rfl, _, _⟩ := sh_int (t := 3) Try.underlying3 h1
  obtain ⟨c, rfl⟩ := sh_str (t := 9) Try.underlying9 h2
  obtain ⟨e, rfl⟩ := sh_dig (t := 23) Try.underlying23 h3
  exact ⟨⟨a, b, c, e⟩, rfl⟩
theorem sh_rep {n : Nat} {v : AV} (h : ShT Try.prog (n + 18) 28 v) : ∃ (t : Tk) (y : Rep), v = repV t y := by
  obtain ⟨ps, rfl, hps⟩ := sh_struct (n := n + 17) Try.underlying28 h
  obtain ⟨p0, r, rfl, h0, hps⟩ := shTs_cons (n := n + 16) hps
  obtain ⟨p1, r, rfl, h1, hps⟩ := shTs_cons (n := n + 15) hps
  obtain ⟨p2, r, rfl, h2, hps⟩ := shTs_cons (n := n + 14) hps
  obtain ⟨p3, r, rfl, h3, hps⟩ := shTs_cons (n := n + 13) hps
  obtain ⟨p4, r, rfl, h4, hps⟩ := shTs_cons (n := n + 12) hps
  obtain ⟨p5, r, rfl, h5, hps⟩ := shTs_cons (n := n + 11) hps
  obtain ⟨p6, r, rfl, h6, hps⟩ := shTs_cons (n := n + 10) hps
  obtain ⟨p7, r, rfl, h7, hps⟩ := shTs_cons (n := n + 9) hps
  obtain ⟨p8, r, rfl, h8, hps⟩ := shTs_cons (n := n + 8) hps
  obtain ⟨p9, r, rfl, h9, hps⟩ := shTs_cons (n := n + 7) hps
  obtain rfl := shTs_nil hps
  obtain ⟨a, rfl, _, _⟩ := sh_int (t := 3) Try.underlying3 h0
  obtain ⟨b, rfl, _, _⟩ := sh_int (t := 3) Try.underlying3 h1
  obtain ⟨c, rfl⟩ := sh_str (t := 9) Try.underlying9 h2
  obtain ⟨d, rfl⟩ := sh_dig (t := 23) Try.underlying23 h3
  obtain ⟨tk, xs, rfl, e⟩ := sh_slice (n := n + 11) (t := 26) Try.underlying26 h4
  obtain ⟨l, rfl, _⟩ := map_of (f := pendV) (p := fun _ => True) (fun x hx => sh_pend (n := n + 2) (e x hx))
  obtain ⟨f, rfl, _, _⟩ := sh_int (t := 3) Try.underlying3 h5
  obtain ⟨g, rfl⟩ := sh_str (t := 9) Try.underlying9 h6
  obtain ⟨k, rfl⟩ := sh_dig (t := 23) Try.underlying23 h7
  obtain ⟨i, rfl⟩ := sh_str (t := 9) Try.underlying9 h8
  obtain ⟨j, rfl⟩ := sh_dig (t := 23) Try.underlying23 h9
  exact ⟨tk, ⟨a, b, c, d, l, f, g, k, i, j⟩, rfl⟩
theorem sh_msg {v : AV} (h : ShT Try.prog 30 33 v) : ∃ (t u : Tk) (m : Msg), v = msgV t u m ∧ Rng m.by_ := by
  obtain ⟨ps, rfl, hps⟩ := sh_struct (n := 29) Try.underlying33 h
  obtain ⟨p0, r, rfl, h0, hps⟩ := shTs_cons (n := 28) hps
  obtain ⟨p1, r, rfl, h1, hps⟩ := shTs_cons (n := 27) hps
  obtain ⟨p2, r, rfl, h2, hps⟩ := shTs_cons (n := 26) hps
  obtain ⟨p3, r, rfl, h3, hps⟩ := shTs_cons (n := 25) hps
  obtain ⟨p4, r, rfl, h4, hps⟩ := shTs_cons (n := 24) hps
  obtain ⟨p5, r, rfl, h5, hps⟩ := shTs_cons (n := 23) hps
  obtain ⟨p6, r, rfl, h6, hps⟩ := shTs_cons (n := 22) hps
  obtain ⟨p7, r, rfl, h7, hps⟩ := shTs_cons (n := 21) hps
  obtain ⟨p8, r, rfl, h8, hps⟩ := shTs_cons (n := 20) hps
  obtain ⟨p9, r, rfl, h9, hps⟩ := shTs_cons (n := 19) hps
  obtain rfl := shTs_nil hps
  obtain ⟨a, rfl, _, _⟩ := sh_int (t := 3) Try.underlying3 h0
  obtain ⟨b, rfl, _, _⟩ := sh_int (t := 3) Try.underlying3 h1
  obtain ⟨c, rfl⟩ := sh_sub (n := 17) h2
  obtain ⟨t, d, rfl⟩ := sh_rep (n := 7) h3
  obtain ⟨e, rfl⟩ := sh_str (t := 9) Try.underlying9 h4
  obtain ⟨f, rfl, f1, f2⟩ := sh_int (t := 3) Try.underlying3 h5
  obtain ⟨g, rfl⟩ := sh_dig (t := 23) Try.underlying23 h6
  obtain ⟨k, rfl⟩ := sh_dig (t := 23) Try.underlying23 h7
  obtain ⟨i, rfl⟩ := sh_blob (n := 11) h8
  obtain ⟨u, l, rfl⟩ := sh_ints (n := 17) h9
  exact ⟨t, u, ⟨a, b, c, d, e, f, g, k, i, l⟩, rfl, f1, f2⟩
end Go.Aff.L10

/- Layer 10: what an argument's shape says of a question, of six things. -/
namespace Go.Aff.L10
open Go.Proofs Go.Aff Go.Aff.L01 Classical
set_option linter.unusedVariables false
set_option maxRecDepth 20000

theorem sh_rng {n : Nat} {v : AV} (h : ShT Try.prog (n + 1) 3 v) : ∃ i, v = .int .i64 i ∧ Rng i := by
  obtain ⟨i, rfl, a, b⟩ := sh_int (t := 3) Try.underlying3 h
  exact ⟨i, rfl, a, b⟩
theorem sh_subR {n : Nat} {v : AV} (h : ShT Try.prog (n + 9) 25 v) : ∃ y : Sub, v = subV y ∧ Rng y.num ∧ Rng y.kind ∧ Rng y.target := by
  obtain ⟨ps, rfl, hps⟩ := sh_struct (n := n + 8) Try.underlying25 h
  obtain ⟨p0, r, rfl, h0, hps⟩ := shTs_cons (n := n + 7) hps
  obtain ⟨p1, r, rfl, h1, hps⟩ := shTs_cons (n := n + 6) hps
  obtain ⟨p2, r, rfl, h2, hps⟩ := shTs_cons (n := n + 5) hps
  obtain ⟨p3, r, rfl, h3, hps⟩ := shTs_cons (n := n + 4) hps
  obtain ⟨p4, r, rfl, h4, hps⟩ := shTs_cons (n := n + 3) hps
  obtain ⟨p5, r, rfl, h5, hps⟩ := shTs_cons (n := n + 2) hps
  obtain rfl := shTs_nil hps
  obtain ⟨a, rfl, ra⟩ := sh_rng h0
  obtain ⟨b, rfl, rb⟩ := sh_rng h1
  obtain ⟨c, rfl, rc⟩ := sh_rng h2
  obtain ⟨d, rfl⟩ := sh_str (t := 9) Try.underlying9 h3
  obtain ⟨e, rfl⟩ := sh_dig (t := 23) Try.underlying23 h4
  obtain ⟨f, rfl⟩ := sh_dig (t := 23) Try.underlying23 h5
  exact ⟨⟨a, b, c, d, e, f⟩, rfl, ra, rb, rc⟩
theorem sh_cmp {v : AV} (h : ShT Try.prog 30 46 v) : ∃ y : Cmp, v = cmpV y ∧ InI [y.n, y.a.num, y.a.kind, y.a.target] ∧ InI [y.m, y.b.num, y.b.kind, y.b.target] := by
  obtain ⟨ps, rfl, hps⟩ := sh_struct (n := 29) Try.underlying46 h
  obtain ⟨p0, r, rfl, h0, hps⟩ := shTs_cons (n := 28) hps
  obtain ⟨p1, r, rfl, h1, hps⟩ := shTs_cons (n := 27) hps
  obtain ⟨p2, r, rfl, h2, hps⟩ := shTs_cons (n := 26) hps
  obtain ⟨p3, r, rfl, h3, hps⟩ := shTs_cons (n := 25) hps
  obtain ⟨p4, r, rfl, h4, hps⟩ := shTs_cons (n := 24) hps
  obtain ⟨p5, r, rfl, h5, hps⟩ := shTs_cons (n := 23) hps
  obtain rfl := shTs_nil hps
  obtain ⟨a, rfl, a1, a2, a3⟩ := sh_subR (n := 19) h0
  obtain ⟨b, rfl, b1, b2, b3⟩ := sh_subR (n := 18) h1
  obtain ⟨n, rfl, rn⟩ := sh_rng h2
  obtain ⟨m, rfl, rm⟩ := sh_rng h3
  obtain ⟨x, rfl⟩ := sh_str (t := 9) Try.underlying9 h4
  obtain ⟨y, rfl⟩ := sh_str (t := 9) Try.underlying9 h5
  refine ⟨⟨a, b, n, m, x, y⟩, rfl, ?_, ?_⟩
  · intro z hz
    simp only [List.mem_cons, List.not_mem_nil, or_false] at hz
    rcases hz with rfl | rfl | rfl | rfl <;> assumption
  · intro z hz
    simp only [List.mem_cons, List.not_mem_nil, or_false] at hz
    rcases hz with rfl | rfl | rfl | rfl <;> assumption
end Go.Aff.L10

