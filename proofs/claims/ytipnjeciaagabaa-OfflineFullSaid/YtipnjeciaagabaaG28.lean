import Derived.Test.YtipnjeciaagabaaG27

set_option linter.unusedSimpArgs false
set_option linter.unusedVariables false

/- Layer 27, walked: the net. -/
-- cuts
namespace Go.Aff.L10
open Go.Proofs Go.Aff Go.Aff.L01 Classical
set_option linter.unusedVariables false
set_option linter.unusedSimpArgs false
set_option maxRecDepth 20000
attribute [local go_sem] push_app app_app length_app cellAt_app cellAt_app0 set_app set_app0 objs_app objs_app0 List.cons_append List.nil_append List.length_cons List.length_nil List.getElem?_cons_zero List.getElem?_cons_succ List.set_cons_zero List.set_cons_succ List.length_map
attribute [-go_sem] cellAt_new
attribute [-simp] List.length_flatMap
attribute [local go_sem] Try.underlying3 Try.underlying4 Try.underlying5 Try.underlying9 Try.underlying29 Try.underlying30 Try.underlying33 Try.underlying38 Try.underlying24 Try.underlying89 subPs_0 subAt_0 subSet_0 subPs_1 subAt_1 subSet_1 subPs_2 subAt_2 subSet_2 subPs_3 subAt_3 subSet_3 subPs_4 subAt_4 subSet_4 subPs_5 subAt_5 subSet_5 sizes_sub shapes_sub fits_sub zero_sub zt_sub built_sub Try.underlying32 pendPs_0 pendAt_0 pendSet_0 pendPs_1 pendAt_1 pendSet_1 pendPs_2 pendAt_2 pendSet_2 pendPs_3 pendAt_3 pendSet_3 pendPs_4 pendAt_4 pendSet_4 pendPs_5 pendAt_5 pendSet_5 sizes_pend shapes_pend fits_pend zero_pend zt_pend built_pend Try.underlying98 repPs_0 repAt_0 repSet_0 repPs_1 repAt_1 repSet_1 repPs_2 repAt_2 repSet_2 repPs_3 repAt_3 repSet_3 repPs_4 repAt_4 repSet_4 repPs_5 repAt_5 repSet_5 repPs_6 repAt_6 repSet_6 repPs_7 repAt_7 repSet_7 repPs_8 repAt_8 repSet_8 repPs_9 repAt_9 repSet_9 sizes_rep shapes_rep fits_rep zero_rep zt_rep built_rep Try.underlying35 blobPs_0 blobAt_0 blobSet_0 blobPs_1 blobAt_1 blobSet_1 blobPs_2 blobAt_2 blobSet_2 blobPs_3 blobAt_3 blobSet_3 sizes_blob shapes_blob fits_blob zero_blob zt_blob built_blob Try.underlying37 msgPs_0 msgAt_0 msgSet_0 msgPs_1 msgAt_1 msgSet_1 msgPs_2 msgAt_2 msgSet_2 msgPs_3 msgAt_3 msgSet_3 msgPs_4 msgAt_4 msgSet_4 msgPs_5 msgAt_5 msgSet_5 msgPs_6 msgAt_6 msgSet_6 msgPs_7 msgAt_7 msgSet_7 msgPs_8 msgAt_8 msgSet_8 msgPs_9 msgAt_9 msgSet_9 sizes_msg shapes_msg fits_msg zero_msg zt_msg built_msg Try.underlying40 at_Ps_0 at_Set_0 at_Ps_1 at_Set_1 sizes_at_ shapes_at_
attribute [local go_sem] fits3 fits4 fits5 fits9 fits23 fits26 fits31 fits34 fits52 zt3 zero3 zt34 zero34 zt23 zero23 bin_sub_eql bin_pend_eql bin_pend_neq bin_blob_eql bin_dig23_eql bin_dig23_neq slice23
attribute [local go_sem ↓] blockQ_exit2
attribute [local simp] dig_ext
attribute [local go_sem] sndPs_0 sndAt_0 sndSet_0 sndPs_1 sndAt_1 sndSet_1 sizes_snd shapes_snd fits_snd zero_snd zt_snd built_snd Try.underlying42 askPs_0 askAt_0 askSet_0 askPs_1 askAt_1 askSet_1 askPs_2 askAt_2 askSet_2 askPs_3 askAt_3 askSet_3 askPs_4 askAt_4 askSet_4 sizes_ask shapes_ask fits_ask zero_ask zt_ask built_ask Try.underlying44 let_Ps_0 let_At_0 let_Set_0 let_Ps_1 let_At_1 let_Set_1 sizes_let_ shapes_let_ fits_let_ zero_let_ zt_let_ built_let_ Try.underlying74 netPs_0 netAt_0 netSet_0 netPs_1 netAt_1 netSet_1 sizes_net shapes_net fits_net zero_net zt_net built_net Try.underlying71 rletPs_0 rletAt_0 rletSet_0 rletPs_1 rletAt_1 rletSet_1 sizes_rlet shapes_rlet fits_rlet zero_rlet zt_rlet built_rlet Try.underlying60 rnetPs_0 rnetAt_0 rnetSet_0 rnetPs_1 rnetAt_1 rnetSet_1 sizes_rnet shapes_rnet fits_rnet zero_rnet zt_rnet built_rnet Try.underlying56 Try.underlying69 Try.underlying54 Try.underlying23 Try.underlying53
theorem appc' {α : Type} {a : α} {l m : List α} : List.append (a :: l) m = a :: List.append l m := rfl
theorem fits69 {v : AV} : fits Try.prog 69 v = (v.isAgg = false ∧ v.size = 1) := fits_leaf (by kernel_rfl) (by kernel_rfl)
theorem fits54' {v : AV} : fits Try.prog 54 v = (v.isAgg = false ∧ v.size = 1) := fits_leaf (by kernel_rfl) (by kernel_rfl)
attribute [local go_sem] fits69 fits54'
theorem E69 : ElemT Try.prog 69 74 2 24 := ⟨rfl, by kernel_rfl, by kernel_rfl, ⟨_, of_eq_true zt_let_⟩, by decide⟩
theorem size_lets {l : List Let} : ∀ v ∈ l.map let_V, v.size = 2 := by
  intro v hv; obtain ⟨x, _, rfl⟩ := List.mem_map.1 hv; simp only [AV.size, sizes_let_]
section
variable {s : AST} {j k : Nat} {o : AObj} {v : AV} {p : List Nat}
theorem cellAt_setS (h : k < s.objs.length) : cellAt (s.set k (.cells v)) k p = v.at p := cellAt_known (by simp only [AST.set]; rw [List.getElem?_set_self h]) p
theorem cellAt_setN (h : j ≠ k) : cellAt (s.set j o) k p = cellAt s k p := by simp only [cellAt, AST.set]; rw [List.getElem?_set_ne h]
theorem objs_setS (h : k < s.objs.length) : (s.set k o).objs[k]? = some o := by simp only [AST.set]; rw [List.getElem?_set_self h]
theorem objs_setN (h : j ≠ k) : (s.set j o).objs[k]? = s.objs[k]? := by simp only [AST.set]; rw [List.getElem?_set_ne h]
end
/-- A net in memory, and what else is known of memory. -/
structure NF (σ0 s : AST) (j : Nat) (c : Int) (l : List Let) (F : List (Nat × AObj)) : Prop where
  x : Ext σ0 s
  jn : σ0.objs.length ≤ j
  o : ∃ tk, s.objs[j]? = some (.cells (netV tk ⟨c, l⟩))
  f : ∀ x ∈ F, x.1 ≠ j ∧ s.objs[x.1]? = some x.2
theorem len_c {σ0 s : AST} {j : Nat} {c : Int} {l : List Let} {F : List (Nat × AObj)} {K : AV → AST → Prop} (h : NF σ0 s j c l F) (hK : l.length ≤ maxL → K (.int .i64 l.length) s) : TCalls Try.prog 17 [.ptr (some (j, []))] s K := by
  obtain ⟨tk, o⟩ := h.o
  have c0 := cellAt_known o
  refine tcalls_walk Try.f17 _ [.tmp 2] Try.func17 rfl rfl rfl mixed (Nat.le_of_ble_eq_true rfl) rfl fun hlen => ?_
  repeat' (first | (simp -dsimp only [↓reduceIte, go_sem, c0]) | (refine arr_intro fun _ => ?_) | (refine later_intro ⟨keeps_nil, ?_⟩) | (refine later_intro ⟨keeps_refl, ?_⟩) | (with_reducible refine keeps_go ?_ ?_; focus (first | (simp [keeps_cons, keeps_none, objs_app, objs_app0]; done) | (simp only [keeps_cons, keeps_none, objs_app0, objs_app, and_true]; first | rfl | exact ⟨rfl, rfl⟩ | exact ⟨rfl, rfl, rfl⟩))) | (with_reducible refine (And.intro (a := keeps _ _ _) ?_ ?_); focus (first | (simp [keeps_cons, keeps_none, objs_app, objs_app0]; done) | (simp only [keeps_cons, keeps_none, objs_app0, objs_app, and_true]; first | rfl | exact ⟨rfl, rfl⟩ | exact ⟨rfl, rfl, rfl⟩))) | (refine both_ways ?_ ?_) | (rw [wrap_i64 (by omega) (by omega)]) | (refine guardV_split (fun h => ?_) (fun h => ?_) <;> (try rw [h]) <;> (try simp at h) <;> (try (exfalso; omega))))
  exact hK (by assumption)
theorem slice3 {tk : Tk} {l : List Let} {n : Int} {KV : AV → Prop} (hn : n = l.length) (h : KV (.slice .full (l.map let_V))) : sliceW Try.prog 69 (.slice tk (l.map let_V)) none (some (.int .i64 n)) (some (.int .i64 n)) KV := by
  subst hn
  refine ⟨74, E69.hu, fun v hv => by rw [E69.hc]; exact size_lets v hv, ⟨_, Try.underlying74⟩, ?_⟩
  simp [bndW]
  rw [List.take_of_length_le (by simp)]
  exact h
theorem append_let {l : List Let} {x : Let} {tk2 : Tk} {σ : AST} {K : AV → AST → Prop} (hl : l.length ≤ 1000) (hK : K (.slice (growT σ .full) ((l ++ [x]).map let_V)) (growS σ .full (l.length + 1) 2)) :
    appendW Try.prog ⟨[69, 69]⟩ (.slice .full (l.map let_V)) (.slice tk2 [let_V x]) σ K := by
  refine append_slice E69 rfl trivial (size_lets (l := [x])) size_lets (by simp; omega) (by simp [maxL]; omega) ?_
  simpa using hK
theorem put_c' {σ0 s : AST} {j : Nat} {c : Int} {l : List Let} {x : Let} {F : List (Nat × AObj)} {K : AV → AST → Prop} (hN : NF σ0 s j c l F)
    (hK : ∀ s', NF σ0 s' j c (if 128 ≤ l.length then l else l ++ [x]) F → K (.int .i64 (if 128 ≤ l.length then 11 else 0)) s') : TCalls Try.prog 25 [.ptr (some (j, [])), let_V x] s K := by
  obtain ⟨tk, o⟩ := hN.o
  have c0 := cellAt_known o
  have hjl := (List.getElem?_eq_some_iff.1 o).1
  have oA : ∀ l, (s.app l).objs[j]? = some _ := fun l => objs_known_app o l
  have cA : ∀ l p, cellAt (s.app l) j p = _ := fun l p => cellAt_known (oA l) p
  have og : ∀ l m, (growS (s.app l) .full m 2).objs[j]? = some _ := fun l m => by rw [growS_objs]; exact oA l
  have cg : ∀ l m p, cellAt (growS (s.app l) .full m 2) j p = _ := fun l m p => cellAt_known (og l m) p
  refine tcalls_walk Try.f25 _ [.tmp 4] Try.func25 rfl rfl rfl mixed (Nat.le_of_ble_eq_true rfl) rfl fun hlen => ?_
  by_cases hb : 128 ≤ l.length
  · simp only [hb, if_true] at hK
    repeat' (first | (simp -dsimp only [↓reduceIte, go_sem, cA, hb]) | (refine arr_intro fun _ => ?_) | (refine later_intro ⟨keeps_nil, ?_⟩) | (refine later_intro ⟨keeps_refl, ?_⟩) | (with_reducible refine keeps_go ?_ ?_; focus (first | (simp [keeps_cons, keeps_none, objs_app, objs_app0]; done) | (simp only [keeps_cons, keeps_none, objs_app0, objs_app, and_true]; first | rfl | exact ⟨rfl, rfl⟩ | exact ⟨rfl, rfl, rfl⟩))) | (with_reducible refine (And.intro (a := keeps _ _ _) ?_ ?_); focus (first | (simp [keeps_cons, keeps_none, objs_app, objs_app0]; done) | (simp only [keeps_cons, keeps_none, objs_app0, objs_app, and_true]; first | rfl | exact ⟨rfl, rfl⟩ | exact ⟨rfl, rfl, rfl⟩))) | (refine both_ways ?_ ?_) | (rw [wrap_i64 (by omega) (by omega)]) | (refine guardV_split (fun h => ?_) (fun h => ?_) <;> (try rw [h]) <;> (try simp at h) <;> (try (exfalso; omega))))
    exact hK _ ⟨hN.x.trans (Ext.app _ _), hN.jn, ⟨tk, oA _⟩, fun y hy => ⟨(hN.f y hy).1, objs_known_app (hN.f y hy).2 _⟩⟩
  · simp only [hb, if_false] at hK
    repeat' (first | (simp -dsimp only [↓reduceIte, go_sem, cA, oA, og, cg, hb]) | (refine arr_intro fun _ => ?_) | (refine later_intro ⟨keeps_nil, ?_⟩) | (refine later_intro ⟨keeps_refl, ?_⟩) | (with_reducible refine keeps_go ?_ ?_; focus (first | (simp [keeps_cons, keeps_none, objs_app, objs_app0]; done) | (simp only [keeps_cons, keeps_none, objs_app0, objs_app, and_true]; first | rfl | exact ⟨rfl, rfl⟩ | exact ⟨rfl, rfl, rfl⟩))) | (with_reducible refine (And.intro (a := keeps _ _ _) ?_ ?_); focus (first | (simp [keeps_cons, keeps_none, objs_app, objs_app0]; done) | (simp only [keeps_cons, keeps_none, objs_app0, objs_app, and_true]; first | rfl | exact ⟨rfl, rfl⟩ | exact ⟨rfl, rfl, rfl⟩))) | (refine both_ways ?_ ?_) | (rw [wrap_i64 (by omega) (by omega)]) | (refine guardV_split (fun h => ?_) (fun h => ?_) <;> (try rw [h]) <;> (try simp at h) <;> (try (exfalso; omega))) | (with_reducible refine awp_drawU (id := 3) (.op 0 0 (.op 1 2 (.op 2 2 (.op 3 2 (.op 4 2 (.op 5 2 (.op 6 2 (.op 7 2 (.op 8 2 (.op 9 2 (.op 10 2 (.op 11 2 (.op 12 2 (.op 13 2 (.op 14 2 (.op 15 2 (.op 16 2 (.op 17 2 (.op 18 1 (.cut (.op 19 2 (.op 20 2 (.op 21 1 .nil))))))))))))))))))))))) (by kernel_rfl) ?_) | (refine slice3 rfl ?_) | (refine build_slice E69 rfl (by decide) (by intro v hv; simp at hv; subst hv; simp [go_sem]) ?_) | (refine append_let (by omega) ?_))
    refine hK _ ⟨((hN.x.trans (Ext.app _ _)).grow (.inl rfl)).set hN.jn, hN.jn, ⟨_, objs_setS (List.getElem?_eq_some_iff.1 (og _ _)).1⟩, fun y hy => ⟨(hN.f y hy).1, ?_⟩⟩
    rw [objs_setN (hN.f y hy).1.symm, growS_objs]; exact objs_known_app (hN.f y hy).2 _
theorem at_c {σ0 s : AST} {j : Nat} {c : Int} {l : List Let} {i : Int} {F : List (Nat × AObj)} {K : AV → AST → Prop} (hN : NF σ0 s j c l F)
    (hK : K (.int .i64 (if i < 0 ∨ (l.length : Int) ≤ i then 3 else 0)) s) : TCalls Try.prog 36 [.ptr (some (j, [])), .int .i64 i] s K := by
  obtain ⟨tk, o⟩ := hN.o
  have c0 := cellAt_known o
  refine tcalls_walk Try.f36 _ [.tmp 4] Try.func36 rfl rfl rfl mixed (Nat.le_of_ble_eq_true rfl) rfl fun hlen => ?_
  by_cases h0 : i < 0
  · rw [if_pos (.inl h0)] at hK
    repeat' (first | (simp -dsimp only [↓reduceIte, go_sem, c0, h0]) | (refine arr_intro fun _ => ?_) | (refine later_intro ⟨keeps_nil, ?_⟩) | (refine later_intro ⟨keeps_refl, ?_⟩) | (with_reducible refine keeps_go ?_ ?_; focus (first | (simp [keeps_cons, keeps_none, objs_app, objs_app0]; done) | (simp only [keeps_cons, keeps_none, objs_app0, objs_app, and_true]; first | rfl | exact ⟨rfl, rfl⟩ | exact ⟨rfl, rfl, rfl⟩))) | (with_reducible refine (And.intro (a := keeps _ _ _) ?_ ?_); focus (first | (simp [keeps_cons, keeps_none, objs_app, objs_app0]; done) | (simp only [keeps_cons, keeps_none, objs_app0, objs_app, and_true]; first | rfl | exact ⟨rfl, rfl⟩ | exact ⟨rfl, rfl, rfl⟩))) | (refine both_ways ?_ ?_) | (rw [wrap_i64 (by omega) (by omega)]) | (refine guardV_split (fun h => ?_) (fun h => ?_) <;> (try rw [h]) <;> (try simp at h) <;> (try (exfalso; omega))))
    exact hK
  · by_cases h1 : (l.length : Int) ≤ i
    · rw [if_pos (.inr h1)] at hK
      repeat' (first | (simp -dsimp only [↓reduceIte, go_sem, c0, h0, h1]) | (refine arr_intro fun _ => ?_) | (refine later_intro ⟨keeps_nil, ?_⟩) | (refine later_intro ⟨keeps_refl, ?_⟩) | (with_reducible refine keeps_go ?_ ?_; focus (first | (simp [keeps_cons, keeps_none, objs_app, objs_app0]; done) | (simp only [keeps_cons, keeps_none, objs_app0, objs_app, and_true]; first | rfl | exact ⟨rfl, rfl⟩ | exact ⟨rfl, rfl, rfl⟩))) | (with_reducible refine (And.intro (a := keeps _ _ _) ?_ ?_); focus (first | (simp [keeps_cons, keeps_none, objs_app, objs_app0]; done) | (simp only [keeps_cons, keeps_none, objs_app0, objs_app, and_true]; first | rfl | exact ⟨rfl, rfl⟩ | exact ⟨rfl, rfl, rfl⟩))) | (refine both_ways ?_ ?_) | (rw [wrap_i64 (by omega) (by omega)]) | (refine guardV_split (fun h => ?_) (fun h => ?_) <;> (try rw [h]) <;> (try simp at h) <;> (try (exfalso; omega))))
      exact hK
    · rw [if_neg (by omega)] at hK
      repeat' (first | (simp -dsimp only [↓reduceIte, go_sem, c0, h0, h1]) | (refine arr_intro fun _ => ?_) | (refine later_intro ⟨keeps_nil, ?_⟩) | (refine later_intro ⟨keeps_refl, ?_⟩) | (with_reducible refine keeps_go ?_ ?_; focus (first | (simp [keeps_cons, keeps_none, objs_app, objs_app0]; done) | (simp only [keeps_cons, keeps_none, objs_app0, objs_app, and_true]; first | rfl | exact ⟨rfl, rfl⟩ | exact ⟨rfl, rfl, rfl⟩))) | (with_reducible refine (And.intro (a := keeps _ _ _) ?_ ?_); focus (first | (simp [keeps_cons, keeps_none, objs_app, objs_app0]; done) | (simp only [keeps_cons, keeps_none, objs_app0, objs_app, and_true]; first | rfl | exact ⟨rfl, rfl⟩ | exact ⟨rfl, rfl, rfl⟩))) | (refine both_ways ?_ ?_) | (rw [wrap_i64 (by omega) (by omega)]) | (refine guardV_split (fun h => ?_) (fun h => ?_) <;> (try rw [h]) <;> (try simp at h) <;> (try (exfalso; omega))))
      exact hK
theorem new_c {n : Int} {σ : AST} {K : AV → AST → Prop} (h1 : n < 2 ∨ 8 < n → K (.tuple [.ptr none, .int .i64 2]) σ)
    (h2 : ¬ (n < 2 ∨ 8 < n) → ∀ s, NF σ s σ.objs.length n [] [] → K (.tuple [.ptr (some (σ.objs.length, [])), .int .i64 0]) s) : TCalls Try.prog 8 [.int .i64 n] σ K := by
  refine tcalls_walk Try.f8 _ [.tmp 2, .tmp 3] Try.func8 rfl rfl rfl mixed (Nat.le_of_ble_eq_true rfl) rfl fun hlen => ?_
  repeat' (first | (simp -dsimp only [↓reduceIte, go_sem]) | (refine arr_intro fun _ => ?_) | (refine later_intro ⟨keeps_nil, ?_⟩) | (refine later_intro ⟨keeps_refl, ?_⟩) | (with_reducible refine keeps_go ?_ ?_; focus (first | (simp [keeps_cons, keeps_none, objs_app, objs_app0]; done) | (simp only [keeps_cons, keeps_none, objs_app0, objs_app, and_true]; first | rfl | exact ⟨rfl, rfl⟩ | exact ⟨rfl, rfl, rfl⟩))) | (with_reducible refine (And.intro (a := keeps _ _ _) ?_ ?_); focus (first | (simp [keeps_cons, keeps_none, objs_app, objs_app0]; done) | (simp only [keeps_cons, keeps_none, objs_app0, objs_app, and_true]; first | rfl | exact ⟨rfl, rfl⟩ | exact ⟨rfl, rfl, rfl⟩))) | (refine both_ways ?_ ?_) | (rw [wrap_i64 (by omega) (by omega)]) | (refine guardV_split (fun h => ?_) (fun h => ?_) <;> (try rw [h]) <;> (try simp at h) <;> (try (exfalso; omega))))
  · exact h1 (by omega)
  · exact h2 (by omega) _ ⟨Ext.app _ _, Nat.le_refl _, ⟨.full, objs_app0⟩, fun y hy => by simp at hy⟩
  · exact h1 (by omega)
/-- What stands in the net behind a letter that was put, and the word. -/
def addL (l : List Let) (x : Let) : List Let := if 128 ≤ l.length then l else l ++ [x]
def addE (l : List Let) : Int := if 128 ≤ l.length then 11 else 0
def forgeBad (c to : Int) (b : List UInt8) : Prop := to < 0 ∨ c ≤ to ∨ 16384 < b.length
noncomputable def forgeL (c : Int) (l : List Let) (to : Int) (b : List UInt8) : List Let := if forgeBad c to b then l else addL l ⟨to, b⟩
noncomputable def forgeE (c : Int) (l : List Let) (to : Int) (b : List UInt8) : Int := if forgeBad c to b then 2 else addE l
theorem forge_c {σ0 s : AST} {j : Nat} {c to : Int} {b : List UInt8} {l : List Let} {F : List (Nat × AObj)} {K : AV → AST → Prop} (hN : NF σ0 s j c l F)
    (hK : ∀ s', NF σ0 s' j c (forgeL c l to b) F → K (.int .i64 (forgeE c l to b)) s') : TCalls Try.prog 11 [.ptr (some (j, [])), .int .i64 to, .str b] s K := by
  obtain ⟨tk, o⟩ := hN.o
  have c0 := cellAt_known o
  refine tcalls_walk Try.f11 _ [.tmp 6] Try.func11 rfl rfl rfl mixed (Nat.le_of_ble_eq_true rfl) rfl fun hlen => ?_
  by_cases hb : forgeBad c to b
  · simp only [forgeL, forgeE, if_pos hb] at hK
    unfold forgeBad at hb
    repeat' (first | (simp -dsimp only [↓reduceIte, go_sem, c0]) | (refine arr_intro fun _ => ?_) | (refine later_intro ⟨keeps_nil, ?_⟩) | (refine later_intro ⟨keeps_refl, ?_⟩) | (with_reducible refine keeps_go ?_ ?_; focus (first | (simp [keeps_cons, keeps_none, objs_app, objs_app0]; done) | (simp only [keeps_cons, keeps_none, objs_app0, objs_app, and_true]; first | rfl | exact ⟨rfl, rfl⟩ | exact ⟨rfl, rfl, rfl⟩))) | (with_reducible refine (And.intro (a := keeps _ _ _) ?_ ?_); focus (first | (simp [keeps_cons, keeps_none, objs_app, objs_app0]; done) | (simp only [keeps_cons, keeps_none, objs_app0, objs_app, and_true]; first | rfl | exact ⟨rfl, rfl⟩ | exact ⟨rfl, rfl, rfl⟩))) | (refine both_ways ?_ ?_) | (rw [wrap_i64 (by omega) (by omega)]) | (refine guardV_split (fun h => ?_) (fun h => ?_) <;> (try rw [h]) <;> (try simp at h) <;> (try (exfalso; omega))))
    all_goals first
      | (exfalso; omega)
      | exact hK _ hN
  · simp only [forgeL, forgeE, if_neg hb] at hK
    unfold forgeBad at hb
    have b1 : ¬ to < 0 := by omega
    have b2 : ¬ c ≤ to := by omega
    have b3 : ¬ 16384 < (b.length : Int) := by omega
    repeat' (first | (simp -dsimp only [↓reduceIte, go_sem, c0, b1, b2, b3]) | (refine arr_intro fun _ => ?_) | (refine later_intro ⟨keeps_nil, ?_⟩) | (refine later_intro ⟨keeps_refl, ?_⟩) | (with_reducible refine keeps_go ?_ ?_; focus (first | (simp [keeps_cons, keeps_none, objs_app, objs_app0]; done) | (simp only [keeps_cons, keeps_none, objs_app0, objs_app, and_true]; first | rfl | exact ⟨rfl, rfl⟩ | exact ⟨rfl, rfl, rfl⟩))) | (with_reducible refine (And.intro (a := keeps _ _ _) ?_ ?_); focus (first | (simp [keeps_cons, keeps_none, objs_app, objs_app0]; done) | (simp only [keeps_cons, keeps_none, objs_app0, objs_app, and_true]; first | rfl | exact ⟨rfl, rfl⟩ | exact ⟨rfl, rfl, rfl⟩))) | (refine both_ways ?_ ?_) | (rw [wrap_i64 (by omega) (by omega)]) | (refine guardV_split (fun h => ?_) (fun h => ?_) <;> (try rw [h]) <;> (try simp at h) <;> (try (exfalso; omega))))
    refine put_c' (x := ⟨to, b⟩) hN fun s' hN' => ?_
    repeat' (first | (simp -dsimp only [↓reduceIte, go_sem]) | (refine arr_intro fun _ => ?_) | (refine later_intro ⟨keeps_nil, ?_⟩) | (refine later_intro ⟨keeps_refl, ?_⟩) | (with_reducible refine keeps_go ?_ ?_; focus (first | (simp [keeps_cons, keeps_none, objs_app, objs_app0]; done) | (simp only [keeps_cons, keeps_none, objs_app0, objs_app, and_true]; first | rfl | exact ⟨rfl, rfl⟩ | exact ⟨rfl, rfl, rfl⟩))) | (with_reducible refine (And.intro (a := keeps _ _ _) ?_ ?_); focus (first | (simp [keeps_cons, keeps_none, objs_app, objs_app0]; done) | (simp only [keeps_cons, keeps_none, objs_app0, objs_app, and_true]; first | rfl | exact ⟨rfl, rfl⟩ | exact ⟨rfl, rfl, rfl⟩))) | (refine both_ways ?_ ?_) | (rw [wrap_i64 (by omega) (by omega)]) | (refine guardV_split (fun h => ?_) (fun h => ?_) <;> (try rw [h]) <;> (try simp at h) <;> (try (exfalso; omega))))
    exact hK _ hN'
def sendBad (c to : Int) (m : Msg) : Prop := ¬ m.Ok ∨ to < 0 ∨ c ≤ to
noncomputable def sendL (c : Int) (l : List Let) (to : Int) (m : Msg) : List Let := if sendBad c to m then l else addL l ⟨to, m.bytes⟩
noncomputable def sendE (c : Int) (l : List Let) (to : Int) (m : Msg) : Int := if sendBad c to m then 2 else addE l
theorem send_c {σ0 s : AST} {j : Nat} {c to : Int} {m : Msg} {t u : Tk} {l : List Let} {F : List (Nat × AObj)} {K : AV → AST → Prop} (hN : NF σ0 s j c l F)
    (hK : ∀ s', NF σ0 s' j c (sendL c l to m) F → K (.int .i64 (sendE c l to m)) s') : TCalls Try.prog 12 [.ptr (some (j, [])), .agg [.int .i64 to, msgV t u m]] s K := by
  have hN1 : NF σ0 (s.app [.cells (.agg [.int .i64 to, msgV t u m])]) j c l F := by
    obtain ⟨tk, o⟩ := hN.o
    exact ⟨hN.x.trans (Ext.app _ _), hN.jn, ⟨tk, objs_known_app o _⟩, fun y hy => ⟨(hN.f y hy).1, objs_known_app (hN.f y hy).2 _⟩⟩
  obtain ⟨tk, o⟩ := hN1.o
  have c0 := cellAt_known o
  have e : (AV.agg [.int .i64 to, msgV t u m]) = sndV t u ⟨to, m⟩ := rfl
  rw [e] at c0 hN1 ⊢
  refine tcalls_walk Try.f12 _ [.tmp 4] Try.func12 rfl rfl rfl mixed (Nat.le_of_ble_eq_true rfl) rfl fun hlen => ?_
  simp -dsimp only [↓reduceIte, go_sem]
  refine put_c ?_
  by_cases hok : m.Ok
  · rw [if_pos hok]
    by_cases hb : to < 0 ∨ c ≤ to
    · have hbad : sendBad c to m := .inr hb
      simp only [sendL, sendE, if_pos hbad] at hK
      repeat' (first | (simp -dsimp only [↓reduceIte, go_sem, c0]) | (refine arr_intro fun _ => ?_) | (refine later_intro ⟨keeps_nil, ?_⟩) | (refine later_intro ⟨keeps_refl, ?_⟩) | (with_reducible refine keeps_go ?_ ?_; focus (first | (simp [keeps_cons, keeps_none, objs_app, objs_app0]; done) | (simp only [keeps_cons, keeps_none, objs_app0, objs_app, and_true]; first | rfl | exact ⟨rfl, rfl⟩ | exact ⟨rfl, rfl, rfl⟩))) | (with_reducible refine (And.intro (a := keeps _ _ _) ?_ ?_); focus (first | (simp [keeps_cons, keeps_none, objs_app, objs_app0]; done) | (simp only [keeps_cons, keeps_none, objs_app0, objs_app, and_true]; first | rfl | exact ⟨rfl, rfl⟩ | exact ⟨rfl, rfl, rfl⟩))) | (refine both_ways ?_ ?_) | (rw [wrap_i64 (by omega) (by omega)]) | (refine guardV_split (fun h => ?_) (fun h => ?_) <;> (try rw [h]) <;> (try simp at h) <;> (try (exfalso; omega))) | (with_reducible refine awp_drawS (id := 4) [0, 1, 2, 3, 4, 5, 6, 7, 8, 9, 10, 11, 12, 13, 14, 15] (by kernel_rfl) ?_))
      all_goals first
        | (exfalso; omega)
        | exact hK _ hN1
    · have hbad : ¬ sendBad c to m := by rintro (h | h); exact h hok; exact hb h
      simp only [sendL, sendE, if_neg hbad] at hK
      have b1 : ¬ to < 0 := by omega
      have b2 : ¬ c ≤ to := by omega
      repeat' (first | (simp -dsimp only [↓reduceIte, go_sem, c0, b1, b2]) | (refine arr_intro fun _ => ?_) | (refine later_intro ⟨keeps_nil, ?_⟩) | (refine later_intro ⟨keeps_refl, ?_⟩) | (with_reducible refine keeps_go ?_ ?_; focus (first | (simp [keeps_cons, keeps_none, objs_app, objs_app0]; done) | (simp only [keeps_cons, keeps_none, objs_app0, objs_app, and_true]; first | rfl | exact ⟨rfl, rfl⟩ | exact ⟨rfl, rfl, rfl⟩))) | (with_reducible refine (And.intro (a := keeps _ _ _) ?_ ?_); focus (first | (simp [keeps_cons, keeps_none, objs_app, objs_app0]; done) | (simp only [keeps_cons, keeps_none, objs_app0, objs_app, and_true]; first | rfl | exact ⟨rfl, rfl⟩ | exact ⟨rfl, rfl, rfl⟩))) | (refine both_ways ?_ ?_) | (rw [wrap_i64 (by omega) (by omega)]) | (refine guardV_split (fun h => ?_) (fun h => ?_) <;> (try rw [h]) <;> (try simp at h) <;> (try (exfalso; omega))) | (with_reducible refine awp_drawS (id := 4) [0, 1, 2, 3, 4, 5, 6, 7, 8, 9, 10, 11, 12, 13, 14, 15] (by kernel_rfl) ?_))
      refine put_c' (x := ⟨to, m.bytes⟩) hN1 fun s' hN' => ?_
      repeat' (first | (simp -dsimp only [↓reduceIte, go_sem]) | (refine arr_intro fun _ => ?_) | (refine later_intro ⟨keeps_nil, ?_⟩) | (refine later_intro ⟨keeps_refl, ?_⟩) | (with_reducible refine keeps_go ?_ ?_; focus (first | (simp [keeps_cons, keeps_none, objs_app, objs_app0]; done) | (simp only [keeps_cons, keeps_none, objs_app0, objs_app, and_true]; first | rfl | exact ⟨rfl, rfl⟩ | exact ⟨rfl, rfl, rfl⟩))) | (with_reducible refine (And.intro (a := keeps _ _ _) ?_ ?_); focus (first | (simp [keeps_cons, keeps_none, objs_app, objs_app0]; done) | (simp only [keeps_cons, keeps_none, objs_app0, objs_app, and_true]; first | rfl | exact ⟨rfl, rfl⟩ | exact ⟨rfl, rfl, rfl⟩))) | (refine both_ways ?_ ?_) | (rw [wrap_i64 (by omega) (by omega)]) | (refine guardV_split (fun h => ?_) (fun h => ?_) <;> (try rw [h]) <;> (try simp at h) <;> (try (exfalso; omega))))
      exact hK _ hN'
  · rw [if_neg hok]
    have hbad : sendBad c to m := .inl hok
    simp only [sendL, sendE, if_pos hbad] at hK
    repeat' (first | (simp -dsimp only [↓reduceIte, go_sem, c0]) | (refine arr_intro fun _ => ?_) | (refine later_intro ⟨keeps_nil, ?_⟩) | (refine later_intro ⟨keeps_refl, ?_⟩) | (with_reducible refine keeps_go ?_ ?_; focus (first | (simp [keeps_cons, keeps_none, objs_app, objs_app0]; done) | (simp only [keeps_cons, keeps_none, objs_app0, objs_app, and_true]; first | rfl | exact ⟨rfl, rfl⟩ | exact ⟨rfl, rfl, rfl⟩))) | (with_reducible refine (And.intro (a := keeps _ _ _) ?_ ?_); focus (first | (simp [keeps_cons, keeps_none, objs_app, objs_app0]; done) | (simp only [keeps_cons, keeps_none, objs_app0, objs_app, and_true]; first | rfl | exact ⟨rfl, rfl⟩ | exact ⟨rfl, rfl, rfl⟩))) | (refine both_ways ?_ ?_) | (rw [wrap_i64 (by omega) (by omega)]) | (refine guardV_split (fun h => ?_) (fun h => ?_) <;> (try rw [h]) <;> (try simp at h) <;> (try (exfalso; omega))) | (with_reducible refine awp_drawS (id := 4) [0, 1, 2, 3, 4, 5, 6, 7, 8, 9, 10, 11, 12, 13, 14, 15] (by kernel_rfl) ?_))
    exact hK _ hN1
end Go.Aff.L10

/- Layer 27, walked: copies, letters taken out. -/
-- cuts
namespace Go.Aff.L10
open Go.Proofs Go.Aff Go.Aff.L01 Classical
set_option linter.unusedVariables false
set_option linter.unusedSimpArgs false
set_option maxRecDepth 20000
attribute [local go_sem] push_app app_app length_app cellAt_app cellAt_app0 set_app set_app0 objs_app objs_app0 List.cons_append List.nil_append List.length_cons List.length_nil List.getElem?_cons_zero List.getElem?_cons_succ List.set_cons_zero List.set_cons_succ List.length_map
attribute [-go_sem] cellAt_new
attribute [-simp] List.length_flatMap
attribute [local go_sem] Try.underlying3 Try.underlying4 Try.underlying5 Try.underlying9 Try.underlying29 Try.underlying30 Try.underlying33 Try.underlying38 Try.underlying24 Try.underlying89 subPs_0 subAt_0 subSet_0 subPs_1 subAt_1 subSet_1 subPs_2 subAt_2 subSet_2 subPs_3 subAt_3 subSet_3 subPs_4 subAt_4 subSet_4 subPs_5 subAt_5 subSet_5 sizes_sub shapes_sub fits_sub zero_sub zt_sub built_sub Try.underlying32 pendPs_0 pendAt_0 pendSet_0 pendPs_1 pendAt_1 pendSet_1 pendPs_2 pendAt_2 pendSet_2 pendPs_3 pendAt_3 pendSet_3 pendPs_4 pendAt_4 pendSet_4 pendPs_5 pendAt_5 pendSet_5 sizes_pend shapes_pend fits_pend zero_pend zt_pend built_pend Try.underlying98 repPs_0 repAt_0 repSet_0 repPs_1 repAt_1 repSet_1 repPs_2 repAt_2 repSet_2 repPs_3 repAt_3 repSet_3 repPs_4 repAt_4 repSet_4 repPs_5 repAt_5 repSet_5 repPs_6 repAt_6 repSet_6 repPs_7 repAt_7 repSet_7 repPs_8 repAt_8 repSet_8 repPs_9 repAt_9 repSet_9 sizes_rep shapes_rep fits_rep zero_rep zt_rep built_rep Try.underlying35 blobPs_0 blobAt_0 blobSet_0 blobPs_1 blobAt_1 blobSet_1 blobPs_2 blobAt_2 blobSet_2 blobPs_3 blobAt_3 blobSet_3 sizes_blob shapes_blob fits_blob zero_blob zt_blob built_blob Try.underlying37 msgPs_0 msgAt_0 msgSet_0 msgPs_1 msgAt_1 msgSet_1 msgPs_2 msgAt_2 msgSet_2 msgPs_3 msgAt_3 msgSet_3 msgPs_4 msgAt_4 msgSet_4 msgPs_5 msgAt_5 msgSet_5 msgPs_6 msgAt_6 msgSet_6 msgPs_7 msgAt_7 msgSet_7 msgPs_8 msgAt_8 msgSet_8 msgPs_9 msgAt_9 msgSet_9 sizes_msg shapes_msg fits_msg zero_msg zt_msg built_msg Try.underlying40 at_Ps_0 at_Set_0 at_Ps_1 at_Set_1 sizes_at_ shapes_at_
attribute [local go_sem] fits3 fits4 fits5 fits9 fits23 fits26 fits31 fits34 fits52 zt3 zero3 zt34 zero34 zt23 zero23 bin_sub_eql bin_pend_eql bin_pend_neq bin_blob_eql bin_dig23_eql bin_dig23_neq slice23
attribute [local go_sem ↓] blockQ_exit2
attribute [local simp] dig_ext
attribute [local go_sem] sndPs_0 sndAt_0 sndSet_0 sndPs_1 sndAt_1 sndSet_1 sizes_snd shapes_snd fits_snd zero_snd zt_snd built_snd Try.underlying42 askPs_0 askAt_0 askSet_0 askPs_1 askAt_1 askSet_1 askPs_2 askAt_2 askSet_2 askPs_3 askAt_3 askSet_3 askPs_4 askAt_4 askSet_4 sizes_ask shapes_ask fits_ask zero_ask zt_ask built_ask Try.underlying44 let_Ps_0 let_At_0 let_Set_0 let_Ps_1 let_At_1 let_Set_1 sizes_let_ shapes_let_ fits_let_ zero_let_ zt_let_ built_let_ Try.underlying74 netPs_0 netAt_0 netSet_0 netPs_1 netAt_1 netSet_1 sizes_net shapes_net fits_net zero_net zt_net built_net Try.underlying71 rletPs_0 rletAt_0 rletSet_0 rletPs_1 rletAt_1 rletSet_1 sizes_rlet shapes_rlet fits_rlet zero_rlet zt_rlet built_rlet Try.underlying60 rnetPs_0 rnetAt_0 rnetSet_0 rnetPs_1 rnetAt_1 rnetSet_1 sizes_rnet shapes_rnet fits_rnet zero_rnet zt_rnet built_rnet Try.underlying56 Try.underlying69 Try.underlying54 Try.underlying23 Try.underlying53
attribute [local go_sem] fits69 fits54'
theorem copy_bad {σ0 s : AST} {j : Nat} {c : Int} {l : List Let} {i : Int} {F : List (Nat × AObj)} {K : AV → AST → Prop} (hN : NF σ0 s j c l F) (hi : i < 0 ∨ (l.length : Int) ≤ i)
    (hK : K (.int .i64 3) s) : TCalls Try.prog 20 [.ptr (some (j, [])), .int .i64 i] s K := by
  refine tcalls_walk Try.f20 _ [.tmp 4] Try.func20 rfl rfl rfl mixed (Nat.le_of_ble_eq_true rfl) rfl fun hlen => ?_
  simp -dsimp only [↓reduceIte, go_sem]
  refine at_c hN ?_
  rw [if_pos hi]
  repeat' (first | (simp -dsimp only [↓reduceIte, go_sem]) | (refine arr_intro fun _ => ?_) | (refine later_intro ⟨keeps_nil, ?_⟩) | (refine later_intro ⟨keeps_refl, ?_⟩) | (with_reducible refine keeps_go ?_ ?_; focus (first | (simp [keeps_cons, keeps_none, objs_app, objs_app0]; done) | (simp only [keeps_cons, keeps_none, objs_app0, objs_app, and_true]; first | rfl | exact ⟨rfl, rfl⟩ | exact ⟨rfl, rfl, rfl⟩))) | (with_reducible refine (And.intro (a := keeps _ _ _) ?_ ?_); focus (first | (simp [keeps_cons, keeps_none, objs_app, objs_app0]; done) | (simp only [keeps_cons, keeps_none, objs_app0, objs_app, and_true]; first | rfl | exact ⟨rfl, rfl⟩ | exact ⟨rfl, rfl, rfl⟩))) | (refine both_ways ?_ ?_) | (rw [wrap_i64 (by omega) (by omega)]) | (refine guardV_split (fun h => ?_) (fun h => ?_) <;> (try rw [h]) <;> (try simp at h) <;> (try (exfalso; omega))))
  exact hK
theorem copy_c {σ0 s : AST} {j : Nat} {c : Int} {l : List Let} {i : Nat} {x : Let} {F : List (Nat × AObj)} {K : AV → AST → Prop} (hN : NF σ0 s j c l F) (hx : l[i]? = some x)
    (hK : ∀ s', NF σ0 s' j c (addL l x) F → K (.int .i64 (addE l)) s') : TCalls Try.prog 20 [.ptr (some (j, [])), .int .i64 i] s K := by
  have hil := (List.getElem?_eq_some_iff.1 hx).1
  obtain ⟨tk, o⟩ := hN.o
  have c0 := cellAt_known o
  refine tcalls_walk Try.f20 _ [.tmp 4] Try.func20 rfl rfl rfl mixed (Nat.le_of_ble_eq_true rfl) rfl fun hlen => ?_
  simp -dsimp only [↓reduceIte, go_sem]
  refine at_c hN ?_
  rw [if_neg (by omega)]
  repeat' (first | (simp -dsimp only [↓reduceIte, go_sem, c0]) | (refine arr_intro fun _ => ?_) | (refine later_intro ⟨keeps_nil, ?_⟩) | (refine later_intro ⟨keeps_refl, ?_⟩) | (with_reducible refine keeps_go ?_ ?_; focus (first | (simp [keeps_cons, keeps_none, objs_app, objs_app0]; done) | (simp only [keeps_cons, keeps_none, objs_app0, objs_app, and_true]; first | rfl | exact ⟨rfl, rfl⟩ | exact ⟨rfl, rfl, rfl⟩))) | (with_reducible refine (And.intro (a := keeps _ _ _) ?_ ?_); focus (first | (simp [keeps_cons, keeps_none, objs_app, objs_app0]; done) | (simp only [keeps_cons, keeps_none, objs_app0, objs_app, and_true]; first | rfl | exact ⟨rfl, rfl⟩ | exact ⟨rfl, rfl, rfl⟩))) | (refine both_ways ?_ ?_) | (rw [wrap_i64 (by omega) (by omega)]) | (refine guardV_split (fun h => ?_) (fun h => ?_) <;> (try rw [h]) <;> (try simp at h) <;> (try (exfalso; omega))) | (refine nth_get hx ?_))
  refine put_c' (x := x) hN fun s' hN' => ?_
  repeat' (first | (simp -dsimp only [↓reduceIte, go_sem]) | (refine arr_intro fun _ => ?_) | (refine later_intro ⟨keeps_nil, ?_⟩) | (refine later_intro ⟨keeps_refl, ?_⟩) | (with_reducible refine keeps_go ?_ ?_; focus (first | (simp [keeps_cons, keeps_none, objs_app, objs_app0]; done) | (simp only [keeps_cons, keeps_none, objs_app0, objs_app, and_true]; first | rfl | exact ⟨rfl, rfl⟩ | exact ⟨rfl, rfl, rfl⟩))) | (with_reducible refine (And.intro (a := keeps _ _ _) ?_ ?_); focus (first | (simp [keeps_cons, keeps_none, objs_app, objs_app0]; done) | (simp only [keeps_cons, keeps_none, objs_app0, objs_app, and_true]; first | rfl | exact ⟨rfl, rfl⟩ | exact ⟨rfl, rfl, rfl⟩))) | (refine both_ways ?_ ?_) | (rw [wrap_i64 (by omega) (by omega)]) | (refine guardV_split (fun h => ?_) (fun h => ?_) <;> (try rw [h]) <;> (try simp at h) <;> (try (exfalso; omega))))
  exact hK _ hN'
theorem append_lets {a b : List Let} {tk tk2 : Tk} {σ : AST} {K : AV → AST → Prop} (hca : canApp σ tk a.length 2) (hl : a.length + b.length ≤ 2000) (hK : K (.slice (growT σ tk) ((a ++ b).map let_V)) (growS σ tk (a.length + b.length) 2)) :
    appendW Try.prog ⟨[69, 69]⟩ (.slice tk (a.map let_V)) (.slice tk2 (b.map let_V)) σ K := by
  refine append_slice E69 rfl (by rw [List.length_map]; exact hca) size_lets size_lets (by simp; omega) (by simp [maxL]; omega) ?_
  simpa using hK
theorem append_none {b : List Let} {tk2 : Tk} {σ : AST} {K : AV → AST → Prop} (hl : b.length ≤ 2000) (hK : K (.slice (growT σ .full) (b.map let_V)) (growS σ .full b.length 2)) :
    appendW Try.prog ⟨[69, 69]⟩ (.slice .full []) (.slice tk2 (b.map let_V)) σ K := append_lets (a := []) trivial (by simpa using hl) (by simpa using hK)
theorem hi_lets {l : List Let} {tk : Tk} {i : Nat} {KV : AV → Prop} (hi : i ≤ l.length) (h : ∀ t, KV (.slice t ((l.take i).map let_V))) : sliceW Try.prog 69 (.slice tk (l.map let_V)) none (some (.int .i64 i)) none KV :=
  slice_hi E69 ⟨_, Try.underlying74⟩ size_lets (by simpa using hi) fun t => by rw [← List.map_take]; exact h t
theorem lo_lets {l : List Let} {tk : Tk} {i : Nat} {KV : AV → Prop} (hi : i + 1 ≤ l.length) (h : ∀ t, KV (.slice t ((l.drop (i + 1)).map let_V))) : sliceW Try.prog 69 (.slice tk (l.map let_V)) (some (.int .i64 ((i : Int) + 1))) none none KV := by
  have := slice_lo (P := Try.prog) (h := i + 1) (tk := tk) (q := .i64) (KV := KV) E69 ⟨_, Try.underlying74⟩ (size_lets (l := l)) (by simpa using hi) fun t => by rw [← List.map_drop]; exact h t
  simpa using this
theorem cellAt_growS {s : AST} {tk : Tk} {n e j : Nat} {p : List Nat} : cellAt (growS s tk n e) j p = cellAt s j p := by simp only [cellAt, growS_objs]
theorem objs_growS {s : AST} {tk : Tk} {n e j : Nat} : (growS s tk n e).objs[j]? = s.objs[j]? := by rw [growS_objs]
theorem without_c {l : List Let} {tk : Tk} {i : Nat} {x : Let} {σ : AST} {K : AV → AST → Prop} (hx : l[i]? = some x) (hl : l.length ≤ 1000) (hK : ∀ s t, Ext σ s → K (.tuple [.slice t ((l.take i ++ l.drop (i + 1)).map let_V), let_V x]) s) : TCalls Try.prog 37 [.slice tk (l.map let_V), .int .i64 i] σ K := by
  have hil := (List.getElem?_eq_some_iff.1 hx).1
  have hkl : ∀ x y tk a tk2 b, σ.objs.length < (growS (growS (σ.app [x, y]) tk a 2) tk2 b 2).objs.length := fun x y tk a tk2 b => by simp only [growS_objs]; simp [AST.app]
  have cS : ∀ x y tk a tk2 b v p, cellAt ((growS (growS (σ.app [x, y]) tk a 2) tk2 b 2).set σ.objs.length (.cells v)) σ.objs.length p = v.at p := fun x y tk a tk2 b v p => cellAt_setS (hkl x y tk a tk2 b)
  refine tcalls_walk Try.f37 _ [.tmp 4, .cell 5 74] Try.func37 rfl rfl rfl mixed (Nat.le_of_ble_eq_true rfl) rfl fun hlen => ?_
  repeat' (first | (simp -dsimp only [↓reduceIte, go_sem, cellAt_growS, objs_growS, cS]) | (refine arr_intro fun _ => ?_) | (refine later_intro ⟨keeps_nil, ?_⟩) | (refine later_intro ⟨keeps_refl, ?_⟩) | (with_reducible refine keeps_go ?_ ?_; focus (first | (simp [keeps_cons, keeps_none, objs_app, objs_app0]; done) | (simp only [keeps_cons, keeps_none, objs_app0, objs_app, and_true]; first | rfl | exact ⟨rfl, rfl⟩ | exact ⟨rfl, rfl, rfl⟩))) | (with_reducible refine (And.intro (a := keeps _ _ _) ?_ ?_); focus (first | (simp [keeps_cons, keeps_none, objs_app, objs_app0]; done) | (simp only [keeps_cons, keeps_none, objs_app0, objs_app, and_true]; first | rfl | exact ⟨rfl, rfl⟩ | exact ⟨rfl, rfl, rfl⟩))) | (refine both_ways ?_ ?_) | (rw [wrap_i64 (by omega) (by omega)]) | (refine guardV_split (fun h => ?_) (fun h => ?_) <;> (try rw [h]) <;> (try simp at h) <;> (try (exfalso; omega))) | (refine nth_get hx ?_) | (refine build_slice E69 rfl (by decide) (by intro v hv; simp at hv) ?_) | (refine hi_lets (by omega) fun t => ?_) | (refine lo_lets (by omega) fun t => ?_) | (refine append_none (by simp; omega) ?_) | (refine append_lets canGrow (by simp; omega) ?_) | (with_reducible refine awp_drawU (id := 3) (.op 0 2 (.op 1 2 (.op 2 2 (.op 3 2 (.op 4 2 (.op 6 0 (.op 5 1 (.cut (.op 7 2 (.op 8 1 .nil)))))))))) (by kernel_rfl) ?_) | (refine (And.intro (a := keeps _ _ _) ?_ ?_); focus (simp [keeps_cons, keeps_none, growS_objs]; done)) | (with_reducible refine keeps_go ?_ ?_; focus (simp [keeps_cons, keeps_none, growS_objs]; done)))
  refine hK _ _ ((((Ext.app _ _).grow (.inl rfl)).grow ?_).set (Nat.le_refl _))
  exact (show tkNew σ .full from .inl rfl).grow (Ext.app _ _)
end Go.Aff.L10

