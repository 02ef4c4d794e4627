import Derived.Test.YtipnjeciaagabaaG28

set_option linter.unusedSimpArgs false
set_option linter.unusedVariables false

/- Layer 27, walked: Open, Lose. -/
-- cuts
namespace Go.Aff.L10
open Go.Proofs Go.Aff Go.Aff.L01 Classical
set_option linter.unusedVariables false
set_option linter.unusedSimpArgs false
set_option maxRecDepth 20000
attribute [local go_sem] push_app app_app length_app cellAt_app cellAt_app0 set_app set_app0 objs_app objs_app0 List.cons_append List.nil_append List.length_cons List.length_nil List.getElem?_cons_zero List.getElem?_cons_succ List.set_cons_zero List.set_cons_succ List.length_map
attribute [-go_sem] cellAt_new
attribute [-simp] List.length_flatMap
attribute [local go_sem] Try.underlying3 Try.underlying4 Try.underlying5 Try.underlying9 Try.underlying29 Try.underlying30 Try.underlying33 Try.underlying38 Try.underlying24 Try.underlying89 subPs_0 subAt_0 subSet_0 subPs_1 subAt_1 subSet_1 subPs_2 subAt_2 subSet_2 subPs_3 subAt_3 subSet_3 subPs_4 subAt_4 subSet_4 subPs_5 subAt_5 subSet_5 sizes_sub shapes_sub fits_sub zero_sub zt_sub built_sub Try.underlying32 pendPs_0 pendAt_0 pendSet_0 pendPs_1 pendAt_1 pendSet_1 pendPs_2 pendAt_2 pendSet_2 pendPs_3 pendAt_3 pendSet_3 pendPs_4 pendAt_4 pendSet_4 pendPs_5 pendAt_5 pendSet_5 sizes_pend shapes_pend fits_pend zero_pend zt_pend built_pend Try.underlying98 repPs_0 repAt_0 repSet_0 repPs_1 repAt_1 repSet_1 repPs_2 repAt_2 repSet_2 repPs_3 repAt_3 repSet_3 repPs_4 repAt_4 repSet_4 repPs_5 repAt_5 repSet_5 repPs_6 repAt_6 repSet_6 repPs_7 repAt_7 repSet_7 repPs_8 repAt_8 repSet_8 repPs_9 repAt_9 repSet_9 sizes_rep shapes_rep fits_rep zero_rep zt_rep built_rep Try.underlying35 blobPs_0 blobAt_0 blobSet_0 blobPs_1 blobAt_1 blobSet_1 blobPs_2 blobAt_2 blobSet_2 blobPs_3 blobAt_3 blobSet_3 sizes_blob shapes_blob fits_blob zero_blob zt_blob built_blob Try.underlying37 msgPs_0 msgAt_0 msgSet_0 msgPs_1 msgAt_1 msgSet_1 msgPs_2 msgAt_2 msgSet_2 msgPs_3 msgAt_3 msgSet_3 msgPs_4 msgAt_4 msgSet_4 msgPs_5 msgAt_5 msgSet_5 msgPs_6 msgAt_6 msgSet_6 msgPs_7 msgAt_7 msgSet_7 msgPs_8 msgAt_8 msgSet_8 msgPs_9 msgAt_9 msgSet_9 sizes_msg shapes_msg fits_msg zero_msg zt_msg built_msg Try.underlying40 at_Ps_0 at_Set_0 at_Ps_1 at_Set_1 sizes_at_ shapes_at_
attribute [local go_sem] fits3 fits4 fits5 fits9 fits23 fits26 fits31 fits34 fits52 zt3 zero3 zt34 zero34 zt23 zero23 bin_sub_eql bin_pend_eql bin_pend_neq bin_blob_eql bin_dig23_eql bin_dig23_neq slice23
attribute [local go_sem ↓] blockQ_exit2
attribute [local simp] dig_ext
attribute [local go_sem] sndPs_0 sndAt_0 sndSet_0 sndPs_1 sndAt_1 sndSet_1 sizes_snd shapes_snd fits_snd zero_snd zt_snd built_snd Try.underlying42 askPs_0 askAt_0 askSet_0 askPs_1 askAt_1 askSet_1 askPs_2 askAt_2 askSet_2 askPs_3 askAt_3 askSet_3 askPs_4 askAt_4 askSet_4 sizes_ask shapes_ask fits_ask zero_ask zt_ask built_ask Try.underlying44 let_Ps_0 let_At_0 let_Set_0 let_Ps_1 let_At_1 let_Set_1 sizes_let_ shapes_let_ fits_let_ zero_let_ zt_let_ built_let_ Try.underlying74 netPs_0 netAt_0 netSet_0 netPs_1 netAt_1 netSet_1 sizes_net shapes_net fits_net zero_net zt_net built_net Try.underlying71 rletPs_0 rletAt_0 rletSet_0 rletPs_1 rletAt_1 rletSet_1 sizes_rlet shapes_rlet fits_rlet zero_rlet zt_rlet built_rlet Try.underlying60 rnetPs_0 rnetAt_0 rnetSet_0 rnetPs_1 rnetAt_1 rnetSet_1 sizes_rnet shapes_rnet fits_rnet zero_rnet zt_rnet built_rnet Try.underlying56 Try.underlying69 Try.underlying54 Try.underlying23 Try.underlying53
attribute [local go_sem] fits69 fits54'
theorem ext_known {a b : AST} {k : Nat} {o : AObj} (h : Ext a b) (ho : a.objs[k]? = some o) : b.objs[k]? = some o := by
  obtain ⟨O, T, rfl⟩ := h
  rw [List.getElem?_append_left (List.getElem?_eq_some_iff.1 ho).1]; exact ho
theorem open_bad {σ0 s : AST} {j : Nat} {c : Int} {l : List Let} {i : Int} {F : List (Nat × AObj)} {K : AV → AST → Prop} (hN : NF σ0 s j c l F) (hi : i < 0 ∨ (l.length : Int) ≤ i)
    (hK : K (.tuple [.int .i64 0, .str [], .int .i64 3]) s) : TCalls Try.prog 23 [.ptr (some (j, [])), .int .i64 i] s K := by
  refine tcalls_walk Try.f23 _ [.tmp 4, .tmp 5, .tmp 6] Try.func23 rfl rfl rfl mixed (Nat.le_of_ble_eq_true rfl) rfl fun hlen => ?_
  simp -dsimp only [↓reduceIte, go_sem]
  refine at_c hN ?_
  rw [if_pos hi]
  repeat' (first | (simp -dsimp only [↓reduceIte, go_sem]) | (refine arr_intro fun _ => ?_) | (refine later_intro ⟨keeps_nil, ?_⟩) | (refine later_intro ⟨keeps_refl, ?_⟩) | (with_reducible refine keeps_go ?_ ?_; focus (first | (simp [keeps_cons, keeps_none, objs_app, objs_app0]; done) | (simp only [keeps_cons, keeps_none, objs_app0, objs_app, and_true]; first | rfl | exact ⟨rfl, rfl⟩ | exact ⟨rfl, rfl, rfl⟩))) | (with_reducible refine (And.intro (a := keeps _ _ _) ?_ ?_); focus (first | (simp [keeps_cons, keeps_none, objs_app, objs_app0]; done) | (simp only [keeps_cons, keeps_none, objs_app0, objs_app, and_true]; first | rfl | exact ⟨rfl, rfl⟩ | exact ⟨rfl, rfl, rfl⟩))) | (refine both_ways ?_ ?_) | (rw [wrap_i64 (by omega) (by omega)]) | (refine guardV_split (fun h => ?_) (fun h => ?_) <;> (try rw [h]) <;> (try simp at h) <;> (try (exfalso; omega))))
  exact hK
theorem open_c {σ0 s : AST} {j : Nat} {c : Int} {l : List Let} {i : Nat} {x : Let} {F : List (Nat × AObj)} {K : AV → AST → Prop} (hN : NF σ0 s j c l F) (hx : l[i]? = some x) (hl : l.length ≤ 1000)
    (hK : ∀ s', NF σ0 s' j c (l.take i ++ l.drop (i + 1)) F → K (.tuple [.int .i64 x.to, .str x.b, .int .i64 0]) s') : TCalls Try.prog 23 [.ptr (some (j, [])), .int .i64 i] s K := by
  have hil := (List.getElem?_eq_some_iff.1 hx).1
  obtain ⟨tk, o⟩ := hN.o
  refine tcalls_walk Try.f23 _ [.tmp 4, .tmp 5, .tmp 6] Try.func23 rfl rfl rfl mixed (Nat.le_of_ble_eq_true rfl) rfl fun hlen => ?_
  simp -dsimp only [↓reduceIte, go_sem]
  refine at_c hN ?_
  rw [if_neg (by omega)]
  have oA : ∀ l, (s.app l).objs[j]? = some _ := fun l => objs_known_app o l
  have cA : ∀ l p, cellAt (s.app l) j p = _ := fun l p => cellAt_known (oA l) p
  repeat' (first | (simp -dsimp only [↓reduceIte, go_sem, cA]) | (refine arr_intro fun _ => ?_) | (refine later_intro ⟨keeps_nil, ?_⟩) | (refine later_intro ⟨keeps_refl, ?_⟩) | (with_reducible refine keeps_go ?_ ?_; focus (first | (simp [keeps_cons, keeps_none, objs_app, objs_app0]; done) | (simp only [keeps_cons, keeps_none, objs_app0, objs_app, and_true]; first | rfl | exact ⟨rfl, rfl⟩ | exact ⟨rfl, rfl, rfl⟩))) | (with_reducible refine (And.intro (a := keeps _ _ _) ?_ ?_); focus (first | (simp [keeps_cons, keeps_none, objs_app, objs_app0]; done) | (simp only [keeps_cons, keeps_none, objs_app0, objs_app, and_true]; first | rfl | exact ⟨rfl, rfl⟩ | exact ⟨rfl, rfl, rfl⟩))) | (refine both_ways ?_ ?_) | (rw [wrap_i64 (by omega) (by omega)]) | (refine guardV_split (fun h => ?_) (fun h => ?_) <;> (try rw [h]) <;> (try simp at h) <;> (try (exfalso; omega))))
  refine without_c hx hl fun s2 t hx2 => ?_
  have oj := ext_known hx2 (oA _)
  have ok := ext_known hx2 (objs_app0 (σ := s))
  have hjl := (List.getElem?_eq_some_iff.1 o).1
  have hkl := (List.getElem?_eq_some_iff.1 ok).1
  have nj : j ≠ s.objs.length := by omega
  have cS : ∀ o v p, cellAt ((s2.set j o).set s.objs.length (.cells v)) s.objs.length p = v.at p := fun o v p => cellAt_setS (by simpa [AST.set] using hkl)
  repeat' (first | (simp -dsimp only [↓reduceIte, go_sem, oj, cellAt_known oj, ok, objs_setN nj, cS]) | (refine arr_intro fun _ => ?_) | (refine later_intro ⟨keeps_nil, ?_⟩) | (refine later_intro ⟨keeps_refl, ?_⟩) | (with_reducible refine keeps_go ?_ ?_; focus (first | (simp [keeps_cons, keeps_none, objs_app, objs_app0]; done) | (simp only [keeps_cons, keeps_none, objs_app0, objs_app, and_true]; first | rfl | exact ⟨rfl, rfl⟩ | exact ⟨rfl, rfl, rfl⟩))) | (with_reducible refine (And.intro (a := keeps _ _ _) ?_ ?_); focus (first | (simp [keeps_cons, keeps_none, objs_app, objs_app0]; done) | (simp only [keeps_cons, keeps_none, objs_app0, objs_app, and_true]; first | rfl | exact ⟨rfl, rfl⟩ | exact ⟨rfl, rfl, rfl⟩))) | (refine both_ways ?_ ?_) | (rw [wrap_i64 (by omega) (by omega)]) | (refine guardV_split (fun h => ?_) (fun h => ?_) <;> (try rw [h]) <;> (try simp at h) <;> (try (exfalso; omega))) | (with_reducible refine awp_drawS (id := 6) [0, 1, 2, 3, 4, 5, 6] (by kernel_rfl) ?_))
  refine hK _ ⟨((((hN.x.trans (Ext.app _ _)).trans hx2).set hN.jn).set (by have := hN.jn; omega)), hN.jn, ⟨t, ?_⟩, fun y hy => ⟨(hN.f y hy).1, ?_⟩⟩
  · rw [objs_setN nj.symm, objs_setS (List.getElem?_eq_some_iff.1 oj).1]
  · have h1 := hN.f y hy
    have h2 := (List.getElem?_eq_some_iff.1 h1.2).1
    rw [objs_setN (by omega), objs_setN h1.1.symm]
    exact ext_known hx2 (objs_known_app h1.2 _)
theorem lose_bad {σ0 s : AST} {j : Nat} {c : Int} {l : List Let} {i : Int} {F : List (Nat × AObj)} {K : AV → AST → Prop} (hN : NF σ0 s j c l F) (hi : i < 0 ∨ (l.length : Int) ≤ i)
    (hK : K (.int .i64 3) s) : TCalls Try.prog 21 [.ptr (some (j, [])), .int .i64 i] s K := by
  refine tcalls_walk Try.f21 _ [.tmp 4] Try.func21 rfl rfl rfl mixed (Nat.le_of_ble_eq_true rfl) rfl fun hlen => ?_
  repeat' (first | (simp -dsimp only [↓reduceIte, go_sem]) | (refine arr_intro fun _ => ?_) | (refine later_intro ⟨keeps_nil, ?_⟩) | (refine later_intro ⟨keeps_refl, ?_⟩) | (with_reducible refine keeps_go ?_ ?_; focus (first | (simp [keeps_cons, keeps_none, objs_app, objs_app0]; done) | (simp only [keeps_cons, keeps_none, objs_app0, objs_app, and_true]; first | rfl | exact ⟨rfl, rfl⟩ | exact ⟨rfl, rfl, rfl⟩))) | (with_reducible refine (And.intro (a := keeps _ _ _) ?_ ?_); focus (first | (simp [keeps_cons, keeps_none, objs_app, objs_app0]; done) | (simp only [keeps_cons, keeps_none, objs_app0, objs_app, and_true]; first | rfl | exact ⟨rfl, rfl⟩ | exact ⟨rfl, rfl, rfl⟩))) | (refine both_ways ?_ ?_) | (rw [wrap_i64 (by omega) (by omega)]) | (refine guardV_split (fun h => ?_) (fun h => ?_) <;> (try rw [h]) <;> (try simp at h) <;> (try (exfalso; omega))) | (refine open_bad hN hi ?_))
  exact hK
theorem lose_c {σ0 s : AST} {j : Nat} {c : Int} {l : List Let} {i : Nat} {x : Let} {F : List (Nat × AObj)} {K : AV → AST → Prop} (hN : NF σ0 s j c l F) (hx : l[i]? = some x) (hl : l.length ≤ 1000)
    (hK : ∀ s', NF σ0 s' j c (l.take i ++ l.drop (i + 1)) F → K (.int .i64 0) s') : TCalls Try.prog 21 [.ptr (some (j, [])), .int .i64 i] s K := by
  refine tcalls_walk Try.f21 _ [.tmp 4] Try.func21 rfl rfl rfl mixed (Nat.le_of_ble_eq_true rfl) rfl fun hlen => ?_
  simp -dsimp only [↓reduceIte, go_sem]
  refine open_c hN hx hl fun s' hN' => ?_
  repeat' (first | (simp -dsimp only [↓reduceIte, go_sem]) | (refine arr_intro fun _ => ?_) | (refine later_intro ⟨keeps_nil, ?_⟩) | (refine later_intro ⟨keeps_refl, ?_⟩) | (with_reducible refine keeps_go ?_ ?_; focus (first | (simp [keeps_cons, keeps_none, objs_app, objs_app0]; done) | (simp only [keeps_cons, keeps_none, objs_app0, objs_app, and_true]; first | rfl | exact ⟨rfl, rfl⟩ | exact ⟨rfl, rfl, rfl⟩))) | (with_reducible refine (And.intro (a := keeps _ _ _) ?_ ?_); focus (first | (simp [keeps_cons, keeps_none, objs_app, objs_app0]; done) | (simp only [keeps_cons, keeps_none, objs_app0, objs_app, and_true]; first | rfl | exact ⟨rfl, rfl⟩ | exact ⟨rfl, rfl, rfl⟩))) | (refine both_ways ?_ ?_) | (rw [wrap_i64 (by omega) (by omega)]) | (refine guardV_split (fun h => ?_) (fun h => ?_) <;> (try rw [h]) <;> (try simp at h) <;> (try (exfalso; omega))))
  exact hK s' hN'
theorem is_c {to : Int} {k : Nat} {x : Let} {σ : AST} {K : AV → AST → Prop} (ho : σ.objs[k]? = some (.cells (.int .i64 to))) (hK : K (.bool (decide (x.to = to))) σ) : TCalls Try.prog 33 [let_V x, .ptr (some (k, []))] σ K := by
  refine TCalls.drop ?_
  have oA : ∀ l, (σ.app l).objs[k]? = some _ := fun l => objs_known_app ho l
  have cA : ∀ l p, cellAt (σ.app l) k p = _ := fun l p => cellAt_known (oA l) p
  refine tcalls_walk Try.f33 _ [.tmp 3] Try.func33 rfl rfl rfl mixed (Nat.le_of_ble_eq_true rfl) rfl fun hlen => ?_
  repeat' (first | (simp -dsimp only [↓reduceIte, go_sem, cA]) | (refine arr_intro fun _ => ?_) | (refine later_intro ⟨keeps_nil, ?_⟩) | (refine later_intro ⟨keeps_refl, ?_⟩) | (with_reducible refine keeps_go ?_ ?_; focus (first | (simp [keeps_cons, keeps_none, objs_app, objs_app0]; done) | (simp only [keeps_cons, keeps_none, objs_app0, objs_app, and_true]; first | rfl | exact ⟨rfl, rfl⟩ | exact ⟨rfl, rfl, rfl⟩))) | (with_reducible refine (And.intro (a := keeps _ _ _) ?_ ?_); focus (first | (simp [keeps_cons, keeps_none, objs_app, objs_app0]; done) | (simp only [keeps_cons, keeps_none, objs_app0, objs_app, and_true]; first | rfl | exact ⟨rfl, rfl⟩ | exact ⟨rfl, rfl, rfl⟩))) | (refine both_ways ?_ ?_) | (rw [wrap_i64 (by omega) (by omega)]) | (refine guardV_split (fun h => ?_) (fun h => ?_) <;> (try rw [h]) <;> (try simp at h) <;> (try (exfalso; omega))))
  exact bool_endX (Ext.app _ _) hK (by rw [Bool.eq_iff_iff]; simp)
theorem find_c {to : Int} {k : Nat} {l : List Let} {tk : Tk} {σ0 σ : AST} {K : AV → AST → Prop} (ho : σ.objs[k]? = some (.cells (.int .i64 to))) (hK : ∀ s, Ext σ s → (∀ (i : Nat) x, (∀ (j : Nat) y, j < i → l[j]? = some y → y.to ≠ to) → l[i]? = some x → x.to = to → K (.int .i64 i) s) ∧ ((∀ y ∈ l, y.to ≠ to) → K (.int .i64 (-1)) s)) :
    TCalls Try.prog 32 [.slice tk (l.map let_V), .fn (.func 33) [] [.ptr (some (k, []))]] σ K := by
  refine tcalls_walk Try.f32 _ [.tmp 4] Try.func32 rfl rfl rfl mixed (Nat.le_of_ble_eq_true rfl) rfl fun hlen => ?_
  simp -dsimp only [↓reduceIte, go_sem]
  refine arr_intro fun _ => ?_
  simp -dsimp only [↓reduceIte, go_sem]
  refine awp_rounds (fun (i : Nat) τ s => Ext σ s ∧ i ≤ l.length ∧ (∀ (j : Nat) y, j < i → l[j]? = some y → y.to ≠ to) ∧ τ 1 = .fn (.func 33) [] [.ptr (some (k, []))] ∧ τ 7 = .slice tk (l.map let_V) ∧ τ 8 = .int .i64 l.length ∧ τ 9 = .int .i64 i) (fun i => l.length - i) 0 ?_ ?_
  · refine ⟨Ext.refl _, by omega, fun j y h => by omega, ?_, ?_, ?_, ?_⟩ <;> (try simp only [go_sem]) <;> rfl
  · rintro i τ s ⟨hx, hi, hall, t1, t7, t8, t9⟩
    simp -dsimp only [↓reduceIte, go_sem, t1, t7, t8, t9]
    refine boolW_split (fun hb => ?_) (fun hb => ?_)
    · have hb : i < l.length := by simp at hb; omega
      obtain ⟨y, hy, hm⟩ := get_of_lt hb
      have hl9 : l.length ≤ 9223372036854775807 := by simpa [maxL] using ‹l.length ≤ maxL›
      have oA := ext_known (hx.trans (Ext.app _ [.cells (let_V y)])) ho
      repeat' (first | (simp -dsimp only [↓reduceIte, go_sem, t1, t7, t8, t9]) | (refine arr_intro fun _ => ?_) | (refine later_intro ⟨keeps_nil, ?_⟩) | (refine later_intro ⟨keeps_refl, ?_⟩) | (with_reducible refine keeps_go ?_ ?_; focus (first | (simp [keeps_cons, keeps_none, objs_app, objs_app0]; done) | (simp only [keeps_cons, keeps_none, objs_app0, objs_app, and_true]; first | rfl | exact ⟨rfl, rfl⟩ | exact ⟨rfl, rfl, rfl⟩))) | (with_reducible refine (And.intro (a := keeps _ _ _) ?_ ?_); focus (first | (simp [keeps_cons, keeps_none, objs_app, objs_app0]; done) | (simp only [keeps_cons, keeps_none, objs_app0, objs_app, and_true]; first | rfl | exact ⟨rfl, rfl⟩ | exact ⟨rfl, rfl, rfl⟩))) | (refine both_ways ?_ ?_) | (rw [wrap_i64 (by omega) (by omega)]) | (refine guardV_split (fun h => ?_) (fun h => ?_) <;> (try rw [h]) <;> (try simp at h) <;> (try (exfalso; omega))) | (refine nth_get hy ?_) | (refine is_c oA ?_))
      · exact (hK _ (hx.trans (Ext.app _ _))).1 i y hall hy (by assumption)
      · refine later_intro ⟨i + 1, by omega, hx.trans (Ext.app _ _), by omega, ?_, ?_, ?_, ?_, ?_⟩ <;> (try simp only [go_sem, t1, t7, t8, t9]) <;> (try rfl)
        intro j z hj hz
        by_cases hji : j < i
        · exact hall j z hji hz
        · obtain rfl : j = i := by omega
          rw [hy] at hz; cases hz; assumption
    · have hb : i = l.length := by simp at hb; omega
      subst hb
      repeat' (first | (simp -dsimp only [↓reduceIte, go_sem, t1, t7, t8, t9]) | (refine arr_intro fun _ => ?_) | (refine later_intro ⟨keeps_nil, ?_⟩) | (refine later_intro ⟨keeps_refl, ?_⟩) | (with_reducible refine keeps_go ?_ ?_; focus (first | (simp [keeps_cons, keeps_none, objs_app, objs_app0]; done) | (simp only [keeps_cons, keeps_none, objs_app0, objs_app, and_true]; first | rfl | exact ⟨rfl, rfl⟩ | exact ⟨rfl, rfl, rfl⟩))) | (with_reducible refine (And.intro (a := keeps _ _ _) ?_ ?_); focus (first | (simp [keeps_cons, keeps_none, objs_app, objs_app0]; done) | (simp only [keeps_cons, keeps_none, objs_app0, objs_app, and_true]; first | rfl | exact ⟨rfl, rfl⟩ | exact ⟨rfl, rfl, rfl⟩))) | (refine both_ways ?_ ?_) | (rw [wrap_i64 (by omega) (by omega)]) | (refine guardV_split (fun h => ?_) (fun h => ?_) <;> (try rw [h]) <;> (try simp at h) <;> (try (exfalso; omega))))
      refine (hK s hx).2 fun y hy => ?_
      obtain ⟨j, hj⟩ := List.mem_iff_getElem?.1 hy
      exact hall j y (List.getElem?_eq_some_iff.1 hj).1 hj
end Go.Aff.L10

/- Layer 27, walked: First. -/
-- cuts
namespace Go.Aff.L10
open Go.Proofs Go.Aff Go.Aff.L01 Classical
set_option linter.unusedVariables false
set_option linter.unusedSimpArgs false
set_option maxRecDepth 20000
attribute [local go_sem] push_app app_app length_app cellAt_app cellAt_app0 set_app set_app0 objs_app objs_app0 List.cons_append List.nil_append List.length_cons List.length_nil List.getElem?_cons_zero List.getElem?_cons_succ List.set_cons_zero List.set_cons_succ List.length_map
attribute [-go_sem] cellAt_new
attribute [-simp] List.length_flatMap
attribute [local go_sem] Try.underlying3 Try.underlying4 Try.underlying5 Try.underlying9 Try.underlying29 Try.underlying30 Try.underlying33 Try.underlying38 Try.underlying24 Try.underlying89 subPs_0 subAt_0 subSet_0 subPs_1 subAt_1 subSet_1 subPs_2 subAt_2 subSet_2 subPs_3 subAt_3 subSet_3 subPs_4 subAt_4 subSet_4 subPs_5 subAt_5 subSet_5 sizes_sub shapes_sub fits_sub zero_sub zt_sub built_sub Try.underlying32 pendPs_0 pendAt_0 pendSet_0 pendPs_1 pendAt_1 pendSet_1 pendPs_2 pendAt_2 pendSet_2 pendPs_3 pendAt_3 pendSet_3 pendPs_4 pendAt_4 pendSet_4 pendPs_5 pendAt_5 pendSet_5 sizes_pend shapes_pend fits_pend zero_pend zt_pend built_pend Try.underlying98 repPs_0 repAt_0 repSet_0 repPs_1 repAt_1 repSet_1 repPs_2 repAt_2 repSet_2 repPs_3 repAt_3 repSet_3 repPs_4 repAt_4 repSet_4 repPs_5 repAt_5 repSet_5 repPs_6 repAt_6 repSet_6 repPs_7 repAt_7 repSet_7 repPs_8 repAt_8 repSet_8 repPs_9 repAt_9 repSet_9 sizes_rep shapes_rep fits_rep zero_rep zt_rep built_rep Try.underlying35 blobPs_0 blobAt_0 blobSet_0 blobPs_1 blobAt_1 blobSet_1 blobPs_2 blobAt_2 blobSet_2 blobPs_3 blobAt_3 blobSet_3 sizes_blob shapes_blob fits_blob zero_blob zt_blob built_blob Try.underlying37 msgPs_0 msgAt_0 msgSet_0 msgPs_1 msgAt_1 msgSet_1 msgPs_2 msgAt_2 msgSet_2 msgPs_3 msgAt_3 msgSet_3 msgPs_4 msgAt_4 msgSet_4 msgPs_5 msgAt_5 msgSet_5 msgPs_6 msgAt_6 msgSet_6 msgPs_7 msgAt_7 msgSet_7 msgPs_8 msgAt_8 msgSet_8 msgPs_9 msgAt_9 msgSet_9 sizes_msg shapes_msg fits_msg zero_msg zt_msg built_msg Try.underlying40 at_Ps_0 at_Set_0 at_Ps_1 at_Set_1 sizes_at_ shapes_at_
attribute [local go_sem] fits3 fits4 fits5 fits9 fits23 fits26 fits31 fits34 fits52 zt3 zero3 zt34 zero34 zt23 zero23 bin_sub_eql bin_pend_eql bin_pend_neq bin_blob_eql bin_dig23_eql bin_dig23_neq slice23
attribute [local go_sem ↓] blockQ_exit2
attribute [local simp] dig_ext
attribute [local go_sem] sndPs_0 sndAt_0 sndSet_0 sndPs_1 sndAt_1 sndSet_1 sizes_snd shapes_snd fits_snd zero_snd zt_snd built_snd Try.underlying42 askPs_0 askAt_0 askSet_0 askPs_1 askAt_1 askSet_1 askPs_2 askAt_2 askSet_2 askPs_3 askAt_3 askSet_3 askPs_4 askAt_4 askSet_4 sizes_ask shapes_ask fits_ask zero_ask zt_ask built_ask Try.underlying44 let_Ps_0 let_At_0 let_Set_0 let_Ps_1 let_At_1 let_Set_1 sizes_let_ shapes_let_ fits_let_ zero_let_ zt_let_ built_let_ Try.underlying74 netPs_0 netAt_0 netSet_0 netPs_1 netAt_1 netSet_1 sizes_net shapes_net fits_net zero_net zt_net built_net Try.underlying71 rletPs_0 rletAt_0 rletSet_0 rletPs_1 rletAt_1 rletSet_1 sizes_rlet shapes_rlet fits_rlet zero_rlet zt_rlet built_rlet Try.underlying60 rnetPs_0 rnetAt_0 rnetSet_0 rnetPs_1 rnetAt_1 rnetSet_1 sizes_rnet shapes_rnet fits_rnet zero_rnet zt_rnet built_rnet Try.underlying56 Try.underlying69 Try.underlying54 Try.underlying23 Try.underlying53
attribute [local go_sem] fits69 fits54'
theorem NF.ext {σ0 s s2 : AST} {j : Nat} {c : Int} {l : List Let} {F : List (Nat × AObj)} (hN : NF σ0 s j c l F) (h : Ext s s2) : NF σ0 s2 j c l F := by
  obtain ⟨tk, o⟩ := hN.o
  exact ⟨hN.x.trans h, hN.jn, ⟨tk, ext_known h o⟩, fun y hy => ⟨(hN.f y hy).1, ext_known h (hN.f y hy).2⟩⟩
theorem first_c {σ0 s : AST} {j : Nat} {c to : Int} {l : List Let} {F : List (Nat × AObj)} {K : AV → AST → Prop} (hN : NF σ0 s j c l F) (hl : l.length ≤ 1000)
    (h1 : ∀ s' (i : Nat) x, (∀ (j : Nat) y, j < i → l[j]? = some y → y.to ≠ to) → l[i]? = some x → x.to = to → NF σ0 s' j c (l.take i ++ l.drop (i + 1)) F → K (.tuple [.str x.b, .bool true]) s')
    (h2 : (∀ y ∈ l, y.to ≠ to) → ∀ s', NF σ0 s' j c l F → K (.tuple [.str [], .bool false]) s') : TCalls Try.prog 14 [.ptr (some (j, [])), .int .i64 to] s K := by
  have hNa := hN.ext (Ext.app _ [.cells (.int .i64 to)])
  obtain ⟨tk, o⟩ := hNa.o
  have c0 := cellAt_known o
  refine tcalls_walk Try.f14 _ [.tmp 4, .tmp 5] Try.func14 rfl rfl rfl mixed (Nat.le_of_ble_eq_true rfl) rfl fun hlen => ?_
  repeat' (first | (simp -dsimp only [↓reduceIte, go_sem, c0]) | (refine arr_intro fun _ => ?_) | (refine later_intro ⟨keeps_nil, ?_⟩) | (refine later_intro ⟨keeps_refl, ?_⟩) | (with_reducible refine keeps_go ?_ ?_; focus (first | (simp [keeps_cons, keeps_none, objs_app, objs_app0]; done) | (simp only [keeps_cons, keeps_none, objs_app0, objs_app, and_true]; first | rfl | exact ⟨rfl, rfl⟩ | exact ⟨rfl, rfl, rfl⟩))) | (with_reducible refine (And.intro (a := keeps _ _ _) ?_ ?_); focus (first | (simp [keeps_cons, keeps_none, objs_app, objs_app0]; done) | (simp only [keeps_cons, keeps_none, objs_app0, objs_app, and_true]; first | rfl | exact ⟨rfl, rfl⟩ | exact ⟨rfl, rfl, rfl⟩))) | (refine both_ways ?_ ?_) | (rw [wrap_i64 (by omega) (by omega)]) | (refine guardV_split (fun h => ?_) (fun h => ?_) <;> (try rw [h]) <;> (try simp at h) <;> (try (exfalso; omega))))
  refine side_later (by intro y hy; simp only [List.mem_cons, List.not_mem_nil, or_false] at hy; rcases hy with rfl <;> simp [go_sem]) ?_
  repeat' (first | (simp -dsimp only [↓reduceIte, go_sem]) | (refine arr_intro fun _ => ?_) | (refine later_intro ⟨keeps_nil, ?_⟩) | (refine later_intro ⟨keeps_refl, ?_⟩) | (with_reducible refine keeps_go ?_ ?_; focus (first | (simp [keeps_cons, keeps_none, objs_app, objs_app0]; done) | (simp only [keeps_cons, keeps_none, objs_app0, objs_app, and_true]; first | rfl | exact ⟨rfl, rfl⟩ | exact ⟨rfl, rfl, rfl⟩))) | (with_reducible refine (And.intro (a := keeps _ _ _) ?_ ?_); focus (first | (simp [keeps_cons, keeps_none, objs_app, objs_app0]; done) | (simp only [keeps_cons, keeps_none, objs_app0, objs_app, and_true]; first | rfl | exact ⟨rfl, rfl⟩ | exact ⟨rfl, rfl, rfl⟩))) | (refine both_ways ?_ ?_) | (rw [wrap_i64 (by omega) (by omega)]) | (refine guardV_split (fun h => ?_) (fun h => ?_) <;> (try rw [h]) <;> (try simp at h) <;> (try (exfalso; omega))))
  refine find_c (σ0 := σ0) objs_app0 fun s2 hx => ⟨fun i x ha hi hto => ?_, fun hno => ?_⟩
  · repeat' (first | (simp -dsimp only [↓reduceIte, go_sem]) | (refine arr_intro fun _ => ?_) | (refine later_intro ⟨keeps_nil, ?_⟩) | (refine later_intro ⟨keeps_refl, ?_⟩) | (with_reducible refine keeps_go ?_ ?_; focus (first | (simp [keeps_cons, keeps_none, objs_app, objs_app0]; done) | (simp only [keeps_cons, keeps_none, objs_app0, objs_app, and_true]; first | rfl | exact ⟨rfl, rfl⟩ | exact ⟨rfl, rfl, rfl⟩))) | (with_reducible refine (And.intro (a := keeps _ _ _) ?_ ?_); focus (first | (simp [keeps_cons, keeps_none, objs_app, objs_app0]; done) | (simp only [keeps_cons, keeps_none, objs_app0, objs_app, and_true]; first | rfl | exact ⟨rfl, rfl⟩ | exact ⟨rfl, rfl, rfl⟩))) | (refine both_ways ?_ ?_) | (rw [wrap_i64 (by omega) (by omega)]) | (refine guardV_split (fun h => ?_) (fun h => ?_) <;> (try rw [h]) <;> (try simp at h) <;> (try (exfalso; omega))))
    refine open_c (hNa.ext hx) hi hl fun s3 hN3 => ?_
    repeat' (first | (simp -dsimp only [↓reduceIte, go_sem]) | (refine arr_intro fun _ => ?_) | (refine later_intro ⟨keeps_nil, ?_⟩) | (refine later_intro ⟨keeps_refl, ?_⟩) | (with_reducible refine keeps_go ?_ ?_; focus (first | (simp [keeps_cons, keeps_none, objs_app, objs_app0]; done) | (simp only [keeps_cons, keeps_none, objs_app0, objs_app, and_true]; first | rfl | exact ⟨rfl, rfl⟩ | exact ⟨rfl, rfl, rfl⟩))) | (with_reducible refine (And.intro (a := keeps _ _ _) ?_ ?_); focus (first | (simp [keeps_cons, keeps_none, objs_app, objs_app0]; done) | (simp only [keeps_cons, keeps_none, objs_app0, objs_app, and_true]; first | rfl | exact ⟨rfl, rfl⟩ | exact ⟨rfl, rfl, rfl⟩))) | (refine both_ways ?_ ?_) | (rw [wrap_i64 (by omega) (by omega)]) | (refine guardV_split (fun h => ?_) (fun h => ?_) <;> (try rw [h]) <;> (try simp at h) <;> (try (exfalso; omega))))
    exact h1 s3 i x ha hi hto hN3
  · repeat' (first | (simp -dsimp only [↓reduceIte, go_sem]) | (refine arr_intro fun _ => ?_) | (refine later_intro ⟨keeps_nil, ?_⟩) | (refine later_intro ⟨keeps_refl, ?_⟩) | (with_reducible refine keeps_go ?_ ?_; focus (first | (simp [keeps_cons, keeps_none, objs_app, objs_app0]; done) | (simp only [keeps_cons, keeps_none, objs_app0, objs_app, and_true]; first | rfl | exact ⟨rfl, rfl⟩ | exact ⟨rfl, rfl, rfl⟩))) | (with_reducible refine (And.intro (a := keeps _ _ _) ?_ ?_); focus (first | (simp [keeps_cons, keeps_none, objs_app, objs_app0]; done) | (simp only [keeps_cons, keeps_none, objs_app0, objs_app, and_true]; first | rfl | exact ⟨rfl, rfl⟩ | exact ⟨rfl, rfl, rfl⟩))) | (refine both_ways ?_ ?_) | (rw [wrap_i64 (by omega) (by omega)]) | (refine guardV_split (fun h => ?_) (fun h => ?_) <;> (try rw [h]) <;> (try simp at h) <;> (try (exfalso; omega))))
    refine open_bad (hNa.ext hx) (.inl (by decide)) ?_
    repeat' (first | (simp -dsimp only [↓reduceIte, go_sem]) | (refine arr_intro fun _ => ?_) | (refine later_intro ⟨keeps_nil, ?_⟩) | (refine later_intro ⟨keeps_refl, ?_⟩) | (with_reducible refine keeps_go ?_ ?_; focus (first | (simp [keeps_cons, keeps_none, objs_app, objs_app0]; done) | (simp only [keeps_cons, keeps_none, objs_app0, objs_app, and_true]; first | rfl | exact ⟨rfl, rfl⟩ | exact ⟨rfl, rfl, rfl⟩))) | (with_reducible refine (And.intro (a := keeps _ _ _) ?_ ?_); focus (first | (simp [keeps_cons, keeps_none, objs_app, objs_app0]; done) | (simp only [keeps_cons, keeps_none, objs_app0, objs_app, and_true]; first | rfl | exact ⟨rfl, rfl⟩ | exact ⟨rfl, rfl, rfl⟩))) | (refine both_ways ?_ ?_) | (rw [wrap_i64 (by omega) (by omega)]) | (refine guardV_split (fun h => ?_) (fun h => ?_) <;> (try rw [h]) <;> (try simp at h) <;> (try (exfalso; omega))))
    exact h2 hno s2 (hNa.ext hx)
def waits (to : Int) (l : List Let) : Nat := l.countP fun x => x.to == to
theorem waits_next {to : Int} {l : List Let} {i : Nat} {y : Let} (h : l[i]? = some y) : waits to (l.take (i + 1)) = waits to (l.take i) + (if y.to = to then 1 else 0) := by
  unfold waits
  rw [List.take_add_one, h]
  simp [List.countP_append, List.countP_cons]
theorem waiting_c {σ0 s : AST} {j : Nat} {c to : Int} {l : List Let} {F : List (Nat × AObj)} {K : AV → AST → Prop} (hN : NF σ0 s j c l F) (hl : l.length ≤ 1000)
    (hK : K (.int .i64 (waits to l)) s) : TCalls Try.prog 15 [.ptr (some (j, [])), .int .i64 to] s K := by
  obtain ⟨tk, o⟩ := hN.o
  have c0 := cellAt_known o
  refine tcalls_walk Try.f15 _ [.tmp 4] Try.func15 rfl rfl rfl mixed (Nat.le_of_ble_eq_true rfl) rfl fun hlen => ?_
  simp -dsimp only [↓reduceIte, go_sem]
  refine len_c hN fun _ => ?_
  simp -dsimp only [↓reduceIte, go_sem]
  refine awp_rounds (fun (i : Nat) τ s' => s' = s ∧ i ≤ l.length ∧ τ 0 = .ptr (some (j, [])) ∧ τ 1 = .int .i64 to ∧ τ 5 = .int .i64 (waits to (l.take i)) ∧ τ 8 = .int .i64 l.length ∧ τ 9 = .int .i64 i) (fun i => l.length - i) 0 ?_ ?_
  · refine ⟨rfl, by omega, ?_, ?_, ?_, ?_, ?_⟩ <;> (try simp only [go_sem]) <;> rfl
  · rintro i τ s' ⟨rfl, hi, t0, t1, t5, t8, t9⟩
    simp -dsimp only [↓reduceIte, go_sem, t0, t1, t5, t8, t9]
    refine boolW_split (fun hb => ?_) (fun hb => ?_)
    · have hb : i < l.length := by simp at hb; omega
      obtain ⟨y, hy, hm⟩ := get_of_lt hb
      have hw := waits_next (to := to) hy
      have hwl : waits to (l.take i) ≤ i := by unfold waits; exact Nat.le_trans (List.countP_le_length ..) (by simp; omega)
      repeat' (first | (simp -dsimp only [↓reduceIte, go_sem, t0, t1, t5, t8, t9, c0]) | (refine arr_intro fun _ => ?_) | (refine later_intro ⟨keeps_nil, ?_⟩) | (refine later_intro ⟨keeps_refl, ?_⟩) | (with_reducible refine keeps_go ?_ ?_; focus (first | (simp [keeps_cons, keeps_none, objs_app, objs_app0]; done) | (simp only [keeps_cons, keeps_none, objs_app0, objs_app, and_true]; first | rfl | exact ⟨rfl, rfl⟩ | exact ⟨rfl, rfl, rfl⟩))) | (with_reducible refine (And.intro (a := keeps _ _ _) ?_ ?_); focus (first | (simp [keeps_cons, keeps_none, objs_app, objs_app0]; done) | (simp only [keeps_cons, keeps_none, objs_app0, objs_app, and_true]; first | rfl | exact ⟨rfl, rfl⟩ | exact ⟨rfl, rfl, rfl⟩))) | (refine both_ways ?_ ?_) | (rw [wrap_i64 (by omega) (by omega)]) | (refine guardV_split (fun h => ?_) (fun h => ?_) <;> (try rw [h]) <;> (try simp at h) <;> (try (exfalso; omega))) | (refine nth_get hy ?_))
      all_goals
        first
          | (have hto : y.to = to := by assumption
             rw [if_pos hto] at hw)
          | (have hto : ¬ y.to = to := by assumption
             rw [if_neg hto, Nat.add_zero] at hw)
        refine later_intro ⟨i + 1, by omega, rfl, by omega, ?_, ?_, ?_, ?_, ?_⟩ <;> (try simp only [go_sem, t0, t1, t5, t8, t9, hw]) <;> (try rfl)
    · have hb : i = l.length := by simp at hb; omega
      subst hb
      rw [List.take_length] at t5
      repeat' (first | (simp -dsimp only [↓reduceIte, go_sem, t0, t1, t5, t8, t9]) | (refine arr_intro fun _ => ?_) | (refine later_intro ⟨keeps_nil, ?_⟩) | (refine later_intro ⟨keeps_refl, ?_⟩) | (with_reducible refine keeps_go ?_ ?_; focus (first | (simp [keeps_cons, keeps_none, objs_app, objs_app0]; done) | (simp only [keeps_cons, keeps_none, objs_app0, objs_app, and_true]; first | rfl | exact ⟨rfl, rfl⟩ | exact ⟨rfl, rfl, rfl⟩))) | (with_reducible refine (And.intro (a := keeps _ _ _) ?_ ?_); focus (first | (simp [keeps_cons, keeps_none, objs_app, objs_app0]; done) | (simp only [keeps_cons, keeps_none, objs_app0, objs_app, and_true]; first | rfl | exact ⟨rfl, rfl⟩ | exact ⟨rfl, rfl, rfl⟩))) | (refine both_ways ?_ ?_) | (rw [wrap_i64 (by omega) (by omega)]) | (refine guardV_split (fun h => ?_) (fun h => ?_) <;> (try rw [h]) <;> (try simp at h) <;> (try (exfalso; omega))))
      exact hK
end Go.Aff.L10

/- Layer 27, walked: awake. -/
-- cuts
namespace Go.Aff.L10
open Go.Proofs Go.Aff Go.Aff.L01 Classical
set_option linter.unusedVariables false
set_option linter.unusedSimpArgs false
set_option maxRecDepth 20000
attribute [local go_sem] push_app app_app length_app cellAt_app cellAt_app0 set_app set_app0 objs_app objs_app0 List.cons_append List.nil_append List.length_cons List.length_nil List.getElem?_cons_zero List.getElem?_cons_succ List.set_cons_zero List.set_cons_succ List.length_map
attribute [-go_sem] cellAt_new
attribute [-simp] List.length_flatMap
attribute [local go_sem] Try.underlying3 Try.underlying4 Try.underlying5 Try.underlying9 Try.underlying29 Try.underlying30 Try.underlying33 Try.underlying38 Try.underlying24 Try.underlying89 subPs_0 subAt_0 subSet_0 subPs_1 subAt_1 subSet_1 subPs_2 subAt_2 subSet_2 subPs_3 subAt_3 subSet_3 subPs_4 subAt_4 subSet_4 subPs_5 subAt_5 subSet_5 sizes_sub shapes_sub fits_sub zero_sub zt_sub built_sub Try.underlying32 pendPs_0 pendAt_0 pendSet_0 pendPs_1 pendAt_1 pendSet_1 pendPs_2 pendAt_2 pendSet_2 pendPs_3 pendAt_3 pendSet_3 pendPs_4 pendAt_4 pendSet_4 pendPs_5 pendAt_5 pendSet_5 sizes_pend shapes_pend fits_pend zero_pend zt_pend built_pend Try.underlying98 repPs_0 repAt_0 repSet_0 repPs_1 repAt_1 repSet_1 repPs_2 repAt_2 repSet_2 repPs_3 repAt_3 repSet_3 repPs_4 repAt_4 repSet_4 repPs_5 repAt_5 repSet_5 repPs_6 repAt_6 repSet_6 repPs_7 repAt_7 repSet_7 repPs_8 repAt_8 repSet_8 repPs_9 repAt_9 repSet_9 sizes_rep shapes_rep fits_rep zero_rep zt_rep built_rep Try.underlying35 blobPs_0 blobAt_0 blobSet_0 blobPs_1 blobAt_1 blobSet_1 blobPs_2 blobAt_2 blobSet_2 blobPs_3 blobAt_3 blobSet_3 sizes_blob shapes_blob fits_blob zero_blob zt_blob built_blob Try.underlying37 msgPs_0 msgAt_0 msgSet_0 msgPs_1 msgAt_1 msgSet_1 msgPs_2 msgAt_2 msgSet_2 msgPs_3 msgAt_3 msgSet_3 msgPs_4 msgAt_4 msgSet_4 msgPs_5 msgAt_5 msgSet_5 msgPs_6 msgAt_6 msgSet_6 msgPs_7 msgAt_7 msgSet_7 msgPs_8 msgAt_8 msgSet_8 msgPs_9 msgAt_9 msgSet_9 sizes_msg shapes_msg fits_msg zero_msg zt_msg built_msg Try.underlying40 at_Ps_0 at_Set_0 at_Ps_1 at_Set_1 sizes_at_ shapes_at_
attribute [local go_sem] fits3 fits4 fits5 fits9 fits23 fits26 fits31 fits34 fits52 zt3 zero3 zt34 zero34 zt23 zero23 bin_sub_eql bin_pend_eql bin_pend_neq bin_blob_eql bin_dig23_eql bin_dig23_neq slice23
attribute [local go_sem ↓] blockQ_exit2
attribute [local simp] dig_ext
attribute [local go_sem] sndPs_0 sndAt_0 sndSet_0 sndPs_1 sndAt_1 sndSet_1 sizes_snd shapes_snd fits_snd zero_snd zt_snd built_snd Try.underlying42 askPs_0 askAt_0 askSet_0 askPs_1 askAt_1 askSet_1 askPs_2 askAt_2 askSet_2 askPs_3 askAt_3 askSet_3 askPs_4 askAt_4 askSet_4 sizes_ask shapes_ask fits_ask zero_ask zt_ask built_ask Try.underlying44 let_Ps_0 let_At_0 let_Set_0 let_Ps_1 let_At_1 let_Set_1 sizes_let_ shapes_let_ fits_let_ zero_let_ zt_let_ built_let_ Try.underlying74 netPs_0 netAt_0 netSet_0 netPs_1 netAt_1 netSet_1 sizes_net shapes_net fits_net zero_net zt_net built_net Try.underlying71 rletPs_0 rletAt_0 rletSet_0 rletPs_1 rletAt_1 rletSet_1 sizes_rlet shapes_rlet fits_rlet zero_rlet zt_rlet built_rlet Try.underlying60 rnetPs_0 rnetAt_0 rnetSet_0 rnetPs_1 rnetAt_1 rnetSet_1 sizes_rnet shapes_rnet fits_rnet zero_rnet zt_rnet built_rnet Try.underlying56 Try.underlying69 Try.underlying54 Try.underlying23 Try.underlying53
attribute [local go_sem] fits69 fits54'
def m90 : Msg := ⟨9, 0, msg0.sub, msg0.rep, msg0.view, msg0.by_, msg0.tag, msg0.own, msg0.blob, msg0.nums⟩
theorem m90_ok : m90.Ok := ⟨by simp [Msg.FieldsOk, m90], by simp [In, m90], by simp [Msg.own_, m90]⟩
theorem m90_bytes : m90.bytes = [57, 59, 48, 59] := by simp [Msg.bytes, Msg.rest, m90, numS, dg_small]
theorem awake_c {σ : AST} {K : AV → AST → Prop} (hK : ∀ s, Ext σ s → K (.bool true) s) : TCalls Try.prog 9 [] σ K := by
  refine tcalls_walk Try.f9 _ [.tmp 0] Try.func9 rfl rfl rfl mixed (Nat.le_of_ble_eq_true rfl) rfl fun hlen => ?_
  simp -dsimp only [↓reduceIte, go_sem]
  refine new_c (fun h => by omega) (fun _ s hN => ?_)
  repeat' (first | (simp -dsimp only [↓reduceIte, go_sem]) | (refine arr_intro fun _ => ?_) | (refine later_intro ⟨keeps_nil, ?_⟩) | (refine later_intro ⟨keeps_refl, ?_⟩) | (with_reducible refine keeps_go ?_ ?_; focus (first | (simp [keeps_cons, keeps_none, objs_app, objs_app0]; done) | (simp only [keeps_cons, keeps_none, objs_app0, objs_app, and_true]; first | rfl | exact ⟨rfl, rfl⟩ | exact ⟨rfl, rfl, rfl⟩))) | (with_reducible refine (And.intro (a := keeps _ _ _) ?_ ?_); focus (first | (simp [keeps_cons, keeps_none, objs_app, objs_app0]; done) | (simp only [keeps_cons, keeps_none, objs_app0, objs_app, and_true]; first | rfl | exact ⟨rfl, rfl⟩ | exact ⟨rfl, rfl, rfl⟩))) | (refine both_ways ?_ ?_) | (rw [wrap_i64 (by omega) (by omega)]) | (refine guardV_split (fun h => ?_) (fun h => ?_) <;> (try rw [h]) <;> (try simp at h) <;> (try (exfalso; omega))))
  refine send_c (m := m90) (t := .full) (u := .full) hN fun s hN => ?_
  have e1 : sendL 2 [] 1 m90 = [⟨1, [57, 59, 48, 59]⟩] := by
    unfold sendL; rw [if_neg (by rintro (h | h); exact h m90_ok; omega)]; simp [addL, m90_bytes]
  have e2 : sendE 2 [] 1 m90 = 0 := by
    unfold sendE; rw [if_neg (by rintro (h | h); exact h m90_ok; omega)]; simp [addE]
  rw [e1] at hN
  rw [e2]
  repeat' (first | (simp -dsimp only [↓reduceIte, go_sem]) | (refine arr_intro fun _ => ?_) | (refine later_intro ⟨keeps_nil, ?_⟩) | (refine later_intro ⟨keeps_refl, ?_⟩) | (with_reducible refine keeps_go ?_ ?_; focus (first | (simp [keeps_cons, keeps_none, objs_app, objs_app0]; done) | (simp only [keeps_cons, keeps_none, objs_app0, objs_app, and_true]; first | rfl | exact ⟨rfl, rfl⟩ | exact ⟨rfl, rfl, rfl⟩))) | (with_reducible refine (And.intro (a := keeps _ _ _) ?_ ?_); focus (first | (simp [keeps_cons, keeps_none, objs_app, objs_app0]; done) | (simp only [keeps_cons, keeps_none, objs_app0, objs_app, and_true]; first | rfl | exact ⟨rfl, rfl⟩ | exact ⟨rfl, rfl, rfl⟩))) | (refine both_ways ?_ ?_) | (rw [wrap_i64 (by omega) (by omega)]) | (refine guardV_split (fun h => ?_) (fun h => ?_) <;> (try rw [h]) <;> (try simp at h) <;> (try (exfalso; omega))))
  refine forge_c hN fun s hN => ?_
  have hfb : ¬ forgeBad 2 0 [120] := by unfold forgeBad; simp
  have e3 : forgeL 2 [⟨1, [57, 59, 48, 59]⟩] 0 [120] = [⟨1, [57, 59, 48, 59]⟩, ⟨0, [120]⟩] := by unfold forgeL; rw [if_neg hfb]; simp [addL]
  have e4 : forgeE 2 [⟨1, [57, 59, 48, 59]⟩] 0 [120] = 0 := by unfold forgeE; rw [if_neg hfb]; simp [addE]
  rw [e3] at hN
  rw [e4]
  repeat' (first | (simp -dsimp only [↓reduceIte, go_sem]) | (refine arr_intro fun _ => ?_) | (refine later_intro ⟨keeps_nil, ?_⟩) | (refine later_intro ⟨keeps_refl, ?_⟩) | (with_reducible refine keeps_go ?_ ?_; focus (first | (simp [keeps_cons, keeps_none, objs_app, objs_app0]; done) | (simp only [keeps_cons, keeps_none, objs_app0, objs_app, and_true]; first | rfl | exact ⟨rfl, rfl⟩ | exact ⟨rfl, rfl, rfl⟩))) | (with_reducible refine (And.intro (a := keeps _ _ _) ?_ ?_); focus (first | (simp [keeps_cons, keeps_none, objs_app, objs_app0]; done) | (simp only [keeps_cons, keeps_none, objs_app0, objs_app, and_true]; first | rfl | exact ⟨rfl, rfl⟩ | exact ⟨rfl, rfl, rfl⟩))) | (refine both_ways ?_ ?_) | (rw [wrap_i64 (by omega) (by omega)]) | (refine guardV_split (fun h => ?_) (fun h => ?_) <;> (try rw [h]) <;> (try simp at h) <;> (try (exfalso; omega))))
  refine first_c hN (by simp) (fun s i x ha hi hto hN => ?_) (fun hno => ?_)
  · have hi0 : i = 0 ∧ x = ⟨1, [57, 59, 48, 59]⟩ := by
      match i, hi with
      | 0, hi => simp at hi; exact ⟨rfl, hi.symm⟩
      | 1, hi => simp at hi; subst hi; simp at hto
      | n + 2, hi => simp at hi
    obtain ⟨rfl, rfl⟩ := hi0
    simp only [List.take_zero, List.nil_append, List.drop_succ_cons, List.drop_zero, Nat.zero_add] at hN
    have hw : waits 0 [⟨0, [120]⟩] = 1 := by simp [waits]
    repeat' (first | (simp -dsimp only [↓reduceIte, go_sem, hw, List.length_cons, List.length_nil]) | (refine arr_intro fun _ => ?_) | (refine later_intro ⟨keeps_nil, ?_⟩) | (refine later_intro ⟨keeps_refl, ?_⟩) | (with_reducible refine keeps_go ?_ ?_; focus (first | (simp [keeps_cons, keeps_none, objs_app, objs_app0]; done) | (simp only [keeps_cons, keeps_none, objs_app0, objs_app, and_true]; first | rfl | exact ⟨rfl, rfl⟩ | exact ⟨rfl, rfl, rfl⟩))) | (with_reducible refine (And.intro (a := keeps _ _ _) ?_ ?_); focus (first | (simp [keeps_cons, keeps_none, objs_app, objs_app0]; done) | (simp only [keeps_cons, keeps_none, objs_app0, objs_app, and_true]; first | rfl | exact ⟨rfl, rfl⟩ | exact ⟨rfl, rfl, rfl⟩))) | (refine both_ways ?_ ?_) | (rw [wrap_i64 (by omega) (by omega)]) | (refine guardV_split (fun h => ?_) (fun h => ?_) <;> (try rw [h]) <;> (try simp at h) <;> (try (exfalso; omega))) | (refine len_c hN fun _ => ?_) | (refine waiting_c hN (by simp) ?_))
    exact hK s hN.x
  · exact absurd rfl (hno ⟨1, [57, 59, 48, 59]⟩ (by simp))
end Go.Aff.L10

