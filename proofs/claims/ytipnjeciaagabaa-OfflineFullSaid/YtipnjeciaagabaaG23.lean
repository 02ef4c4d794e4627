import Derived.Test.YtipnjeciaagabaaG22

set_option linter.unusedSimpArgs false
set_option linter.unusedVariables false

/- Layer 10, walked: bytes that are laid. -/

namespace Go.Aff.L10
open Go.Proofs Go.Aff Go.Aff.L01 Classical
set_option linter.unusedVariables false
set_option linter.unusedSimpArgs false
set_option maxRecDepth 20000
attribute [local go_sem] push_app app_app length_app cellAt_app cellAt_app0 set_app set_app0 objs_app objs_app0 List.cons_append List.nil_append List.length_cons List.length_nil List.getElem?_cons_zero List.getElem?_cons_succ List.set_cons_zero List.set_cons_succ List.length_map
attribute [-go_sem] cellAt_new
attribute [-simp] List.length_flatMap
attribute [local go_sem] Try.underlying3 Try.underlying4 Try.underlying5 Try.underlying9 Try.underlying29 Try.underlying30 Try.underlying33 Try.underlying38 Try.underlying24 Try.underlying89 subPs_0 subAt_0 subSet_0 subPs_1 subAt_1 subSet_1 subPs_2 subAt_2 subSet_2 subPs_3 subAt_3 subSet_3 subPs_4 subAt_4 subSet_4 subPs_5 subAt_5 subSet_5 sizes_sub shapes_sub fits_sub zero_sub zt_sub built_sub Try.underlying32 pendPs_0 pendAt_0 pendSet_0 pendPs_1 pendAt_1 pendSet_1 pendPs_2 pendAt_2 pendSet_2 pendPs_3 pendAt_3 pendSet_3 pendPs_4 pendAt_4 pendSet_4 pendPs_5 pendAt_5 pendSet_5 sizes_pend shapes_pend fits_pend zero_pend zt_pend built_pend Try.underlying98 repPs_0 repAt_0 repSet_0 repPs_1 repAt_1 repSet_1 repPs_2 repAt_2 repSet_2 repPs_3 repAt_3 repSet_3 repPs_4 repAt_4 repSet_4 repPs_5 repAt_5 repSet_5 repPs_6 repAt_6 repSet_6 repPs_7 repAt_7 repSet_7 repPs_8 repAt_8 repSet_8 repPs_9 repAt_9 repSet_9 sizes_rep shapes_rep fits_rep zero_rep zt_rep built_rep Try.underlying35 blobPs_0 blobAt_0 blobSet_0 blobPs_1 blobAt_1 blobSet_1 blobPs_2 blobAt_2 blobSet_2 blobPs_3 blobAt_3 blobSet_3 sizes_blob shapes_blob fits_blob zero_blob zt_blob built_blob Try.underlying37 msgPs_0 msgAt_0 msgSet_0 msgPs_1 msgAt_1 msgSet_1 msgPs_2 msgAt_2 msgSet_2 msgPs_3 msgAt_3 msgSet_3 msgPs_4 msgAt_4 msgSet_4 msgPs_5 msgAt_5 msgSet_5 msgPs_6 msgAt_6 msgSet_6 msgPs_7 msgAt_7 msgSet_7 msgPs_8 msgAt_8 msgSet_8 msgPs_9 msgAt_9 msgSet_9 sizes_msg shapes_msg fits_msg zero_msg zt_msg built_msg Try.underlying40 at_Ps_0 at_Set_0 at_Ps_1 at_Set_1 sizes_at_ shapes_at_
attribute [local go_sem] fits3 fits4 fits5 fits9 fits23 fits26 fits31 fits34 fits52 zt3 zero3 zt34 zero34 zt23 zero23 bin_sub_eql bin_pend_eql bin_pend_neq bin_blob_eql bin_dig23_eql bin_dig23_neq slice23
attribute [local go_sem ↓] blockQ_exit2
attribute [local simp] dig_ext

theorem flatN {α : Type} {f : α → List UInt8} {l : List α} {m i : Nat} (h : ∀ x ∈ l, (f x).length ≤ m) : ((l.take i).flatMap f).length ≤ l.length * m := by
  have := flat_len (f := f) (m := m) (l := l.take i) (fun x hx => h x (List.mem_of_mem_take hx))
  have h2 : (l.take i).length * m ≤ l.length * m := Nat.mul_le_mul_right m (by simp; omega)
  omega
def InI (l : List Int) : Prop := ∀ n ∈ l, -9223372036854775808 ≤ n ∧ n ≤ 9223372036854775807
theorem numsN {l : List Int} (hl : InI l) : ∀ i, ((l.take i).flatMap numS).length ≤ l.length * 22 := fun i => flatN fun n hn => numS_len (hl n hn).1 (hl n hn).2

theorem wAt {tb : Tk} {xs : List AV} {v : AV} : partIs Try.prog 91 [.slice tb xs] 0 v = fits Try.prog 89 v := by rw [partIs_of (o := 0) (T := 89) (by kernel_rfl)]; simp [AV.sizes]
theorem zero54 : zeroA Try.prog 12 91 = .agg [.slice .full []] := by kernel_rfl
theorem zt54 : ZeroOf Try.prog 91 (.agg [.slice .full []]) = True := eq_true ⟨_, _, rfl, rfl, rfl, rfl, rfl⟩
theorem built54 : Built Try.prog 91 = True := eq_true (by unfold Built; rw [Try.underlying91]; decide +kernel)
theorem fits54 {v : AV} : fits Try.prog 91 v = (v.isAgg = true ∧ v.size = 1) := fits_agg (by kernel_rfl) (by kernel_rfl)
theorem E96 : ElemT Try.prog 109 30 32 32 := ⟨rfl, by kernel_rfl, by kernel_rfl, ⟨.dig dig0, ⟨_, _, rfl, rfl, rfl, rfl, rfl⟩⟩, by decide⟩
theorem E31 : ElemT Try.prog 38 3 1 8 := ⟨rfl, by kernel_rfl, by kernel_rfl, ⟨_, of_eq_true zt3⟩, by decide⟩
theorem partInt {n : Int} : fits Try.prog 3 (.int .i64 n) ∧ (AV.int .i64 n).known = true := by simp [go_sem]
theorem partDig {d : Dig} : fits Try.prog 30 (.dig d) ∧ (AV.dig d).known = true := by simp [go_sem]
section
variable {KV : AV → Prop}
theorem bI1 {a : Int} (h : KV (.slice .full ([a].map (AV.int .i64)))) : buildSliceW Try.prog 38 1 [(0, .int .i64 a)] KV := build_slice E31 rfl (by decide) (by simp [partInt]) h
theorem bI2 {a b : Int} (h : KV (.slice .full ([a, b].map (AV.int .i64)))) : buildSliceW Try.prog 38 2 [(0, .int .i64 a), (1, .int .i64 b)] KV := build_slice E31 rfl (by decide) (by simp [partInt]) h
theorem bI3 {a b c : Int} (h : KV (.slice .full ([a, b, c].map (AV.int .i64)))) : buildSliceW Try.prog 38 3 [(0, .int .i64 a), (1, .int .i64 b), (2, .int .i64 c)] KV := build_slice E31 rfl (by decide) (by simp [partInt]) h
theorem bI4 {a b c d : Int} (h : KV (.slice .full ([a, b, c, d].map (AV.int .i64)))) : buildSliceW Try.prog 38 4 [(0, .int .i64 a), (1, .int .i64 b), (2, .int .i64 c), (3, .int .i64 d)] KV := build_slice E31 rfl (by decide) (by simp [partInt]) h
theorem bD1 {a : Dig} (h : KV (.slice .full ([a].map AV.dig))) : buildSliceW Try.prog 109 1 [(0, .dig a)] KV := build_slice E96 rfl (by decide) (by simp [partDig]) h
theorem bD2 {a b : Dig} (h : KV (.slice .full ([a, b].map AV.dig))) : buildSliceW Try.prog 109 2 [(0, .dig a), (1, .dig b)] KV := build_slice E96 rfl (by decide) (by simp [partDig]) h
end
attribute [local go_sem] wAt zero54 zt54 built54 fits54 Try.underlying91 Try.underlying88 Try.underlying109

/-- A writer in memory, and what else is known of memory. -/
structure WF (σ0 s : AST) (j : Nat) (xs : List UInt8) (F : List (Nat × AObj)) : Prop where
  x : Ext σ0 s
  jn : σ0.objs.length ≤ j
  w : ∃ tb, tkNew σ0 tb ∧ canApp s tb xs.length 1 ∧ s.objs[j]? = some (.cells (.agg [.slice tb (u8s xs)]))
  f : ∀ x ∈ F, x.1 ≠ j ∧ s.objs[x.1]? = some x.2
theorem WF.mono {σ0 s : AST} {j : Nat} {xs : List UInt8} {F G : List (Nat × AObj)} (h : WF σ0 s j xs F) (hg : ∀ x ∈ G, x ∈ F) : WF σ0 s j xs G := ⟨h.x, h.jn, h.w, fun x hx => h.f x (hg x hx)⟩
theorem WF.eqn {σ0 s : AST} {j : Nat} {xs ys : List UInt8} {F : List (Nat × AObj)} (h : WF σ0 s j xs F) (e : ys = xs) : WF σ0 s j ys F := by subst e; exact h
theorem WF.push {σ0 s : AST} {j : Nat} {xs : List UInt8} {F : List (Nat × AObj)} {o : AObj} (h : WF σ0 s j xs F) : WF σ0 (s.app [o]) j xs ((s.objs.length, o) :: F) := by
  obtain ⟨tb, h1, h2, h3⟩ := h.w
  have hj : j < s.objs.length := (List.getElem?_eq_some_iff.1 h3).1
  refine ⟨h.x.trans (Ext.app _ _), h.jn, ⟨tb, h1, by rw [canApp_app]; exact h2, objs_known_app h3 _⟩, fun x hx => ?_⟩
  rcases List.mem_cons.1 hx with rfl | hx
  · exact ⟨by dsimp only; omega, objs_app0⟩
  · exact ⟨(h.f x hx).1, objs_known_app (h.f x hx).2 _⟩
theorem WF.cell {σ0 s : AST} {j k : Nat} {xs : List UInt8} {F : List (Nat × AObj)} {v : AV} (h : WF σ0 s j xs F) (hm : (k, AObj.cells v) ∈ F) (p : List Nat) : cellAt s k p = v.at p := cellAt_known (h.f _ hm).2 p
theorem WF.grow {σ0 s : AST} {j m : Nat} {xs ys : List UInt8} {F : List (Nat × AObj)} {tb : Tk} (h : WF σ0 s j xs F) (h1 : tkNew σ0 tb) (h2 : canApp s tb xs.length 1) (h3 : s.objs[j]? = some (.cells (.agg [.slice tb (u8s xs)]))) (hm : m = ys.length) :
    WF σ0 ((growS s tb m 1).set j (.cells (.agg [.slice (growT s tb) (u8s ys)]))) j ys F := by
  subst hm
  have hj : j < s.objs.length := (List.getElem?_eq_some_iff.1 h3).1
  refine ⟨(h.x.grow h1).set h.jn, h.jn, ⟨growT s tb, h1.grow h.x, by rw [canApp_set]; exact canApp_grow h2, ?_⟩, fun x hx => ⟨(h.f x hx).1, ?_⟩⟩
  · simp only [AST.set, growS_objs]; rw [List.getElem?_set_self (by omega)]
  · simp only [AST.set, growS_objs]; rw [List.getElem?_set_ne (fun e => (h.f x hx).1 e.symm)]; exact (h.f x hx).2

theorem wInts_c {l : List Int} (n : Nat) {tk : Tk} {j : Nat} {xs : List UInt8} {F : List (Nat × AObj)} {σ0 σ : AST} {K : AV → AST → Prop} (hl : InI l) (hn : l.length ≤ n) (hn2 : n ≤ 1000) (hx : xs.length ≤ 1000000) (h : WF σ0 σ j xs F)
    (hK : ∀ s, WF σ0 s j (xs ++ l.flatMap numS) F → (xs ++ l.flatMap numS).length ≤ xs.length + 22 * n → K (.tuple []) s) : TCalls Try.prog 39 [.ptr (some (j, [])), .slice tk (l.map (AV.int .i64))] σ K := by
  have hN := numsN hl
  refine tcalls_walk Try.f39 _ [] Try.func39 rfl rfl rfl mixed (Nat.le_of_ble_eq_true rfl) rfl fun hlen => ?_
  repeat' (first | (simp -dsimp only [↓reduceIte, go_sem]) | (refine arr_intro fun _ => ?_) | (refine later_intro ⟨keeps_nil, ?_⟩) | (refine later_intro ⟨keeps_refl, ?_⟩) | (with_reducible refine keeps_go ?_ ?_; focus (first | (simp [keeps_cons, keeps_none, objs_app, objs_app0]; done) | (simp only [keeps_cons, keeps_none, objs_app0, objs_app, and_true]; first | rfl | exact ⟨rfl, rfl⟩ | exact ⟨rfl, rfl, rfl⟩))) | (with_reducible refine (And.intro (a := keeps _ _ _) ?_ ?_); focus (first | (simp [keeps_cons, keeps_none, objs_app, objs_app0]; done) | (simp only [keeps_cons, keeps_none, objs_app0, objs_app, and_true]; first | rfl | exact ⟨rfl, rfl⟩ | exact ⟨rfl, rfl, rfl⟩))) | (refine both_ways ?_ ?_) | (rw [wrap_i64 (by omega) (by omega)]) | (refine guardV_split (fun h => ?_) (fun h => ?_) <;> (try rw [h]) <;> (try simp at h) <;> (try (exfalso; omega))))
  refine awp_rounds (fun (i : Nat) τ s => i ≤ l.length ∧ WF σ0 s j (xs ++ (l.take i).flatMap numS) F ∧ τ 0 = .ptr (some (j, [])) ∧ τ 6 = .slice tk (l.map (AV.int .i64)) ∧ τ 7 = .int .i64 l.length ∧ τ 8 = .int .i64 i) (fun i => l.length - i) 0 ?_ ?_
  · refine ⟨by omega, h.eqn (by simp), ?_, ?_, ?_, ?_⟩ <;> (try simp only [go_sem]) <;> rfl
  · rintro i τ s ⟨hi, hw, t0, t6, t7, t8⟩
    simp -dsimp only [↓reduceIte, go_sem, t0, t6, t7, t8]
    refine boolW_split (fun hb => ?_) (fun hb => ?_)
    · have hb : i < l.length := by simp at hb; omega
      obtain ⟨y, hy, hm⟩ := get_of_lt hb
      have h22 := numS_len (hl y hm).1 (hl y hm).2
      have hNi := hN i
      obtain ⟨tb, w1, w2, w3⟩ := hw.w
      have c := cellAt_known w3
      have o2 : ∀ m, (growS s tb m 1).objs[j]? = some (.cells (.agg [.slice tb (u8s (xs ++ (l.take i).flatMap numS))])) := fun m => by rw [growS_objs]; exact w3
      have c2 := fun m => cellAt_known (o2 m)
      have htk : (l.take (i + 1)).flatMap numS = (l.take i).flatMap numS ++ numS y := by
        rw [List.take_add_one, hy]; simp
      repeat' (first | (simp -dsimp only [↓reduceIte, go_sem, t0, t6, t7, t8, c, w3, o2, c2]) | (refine arr_intro fun _ => ?_) | (refine later_intro ⟨keeps_nil, ?_⟩) | (refine later_intro ⟨keeps_refl, ?_⟩) | (with_reducible refine keeps_go ?_ ?_; focus (first | (simp [keeps_cons, keeps_none, objs_app, objs_app0]; done) | (simp only [keeps_cons, keeps_none, objs_app0, objs_app, and_true]; first | rfl | exact ⟨rfl, rfl⟩ | exact ⟨rfl, rfl, rfl⟩))) | (with_reducible refine (And.intro (a := keeps _ _ _) ?_ ?_); focus (first | (simp [keeps_cons, keeps_none, objs_app, objs_app0]; done) | (simp only [keeps_cons, keeps_none, objs_app0, objs_app, and_true]; first | rfl | exact ⟨rfl, rfl⟩ | exact ⟨rfl, rfl, rfl⟩))) | (refine both_ways ?_ ?_) | (rw [wrap_i64 (by omega) (by omega)]) | (refine guardV_split (fun h => ?_) (fun h => ?_) <;> (try rw [h]) <;> (try simp at h) <;> (try (exfalso; omega))) | (refine nth_get hy ?_) | (with_reducible refine awp_drawT (id := 3) (.op 0 0 (.op 1 2 (.op 2 2 (.op 3 2 (.op 4 2 (.op 5 2 (.op 6 3 (.op 7 1 (.op 8 2 (.op 9 2 (.op 10 1 .nil))))))))))) (by kernel_rfl) ?_) | (refine L01.number_c (hl y hm).1 (hl y hm).2 ?_) | (refine append_text E51 Try.underlying9 w2 (by simp only [List.length_append]; omega) (by simp only [maxL, List.length_append]; omega) ?_))
      refine later_intro ⟨i + 1, by omega, by omega, ?_, ?_, ?_, ?_, ?_⟩ <;> (try simp only [go_sem, t0, t6, t7, t8])
      · rw [htk, ← List.append_assoc]; exact hw.grow w1 w2 w3 (by simp; omega)
      · rfl
    · have hb : i = l.length := by simp at hb; omega
      subst hb
      have hNi := hN l.length
      repeat' (first | (simp -dsimp only [↓reduceIte, go_sem, t0, t6, t7, t8]) | (refine arr_intro fun _ => ?_) | (refine later_intro ⟨keeps_nil, ?_⟩) | (refine later_intro ⟨keeps_refl, ?_⟩) | (with_reducible refine keeps_go ?_ ?_; focus (first | (simp [keeps_cons, keeps_none, objs_app, objs_app0]; done) | (simp only [keeps_cons, keeps_none, objs_app0, objs_app, and_true]; first | rfl | exact ⟨rfl, rfl⟩ | exact ⟨rfl, rfl, rfl⟩))) | (with_reducible refine (And.intro (a := keeps _ _ _) ?_ ?_); focus (first | (simp [keeps_cons, keeps_none, objs_app, objs_app0]; done) | (simp only [keeps_cons, keeps_none, objs_app0, objs_app, and_true]; first | rfl | exact ⟨rfl, rfl⟩ | exact ⟨rfl, rfl, rfl⟩))) | (refine both_ways ?_ ?_) | (rw [wrap_i64 (by omega) (by omega)]) | (refine guardV_split (fun h => ?_) (fun h => ?_) <;> (try rw [h]) <;> (try simp at h) <;> (try (exfalso; omega))))
      exact hK s (hw.eqn (by simp)) (by simp at hNi ⊢; omega)

theorem textS_le {s : List UInt8} {m : Nat} (hs : s.length ≤ m) (hm : m ≤ 16384) : (textS s).length ≤ m + 21 := by
  have := dg_len20 (show s.length < 18446744073709551616 by omega)
  simp [textS]; omega
theorem wText_c {t : List UInt8} (n : Nat) {j : Nat} {xs : List UInt8} {F : List (Nat × AObj)} {σ0 σ : AST} {K : AV → AST → Prop} (hn : t.length ≤ n) (hn2 : n ≤ 16384) (hx : xs.length ≤ 2000000) (h : WF σ0 σ j xs F)
    (hK : ∀ s, WF σ0 s j (xs ++ textS t) F → (xs ++ textS t).length ≤ xs.length + n + 21 → K (.tuple []) s) : TCalls Try.prog 40 [.ptr (some (j, [])), .str t] σ K := by
  have h22 := textS_le hn hn2
  have h6 : ¬ 16384 < t.length := by omega
  obtain ⟨tb, w1, w2, w3⟩ := h.w
  have c := cellAt_known w3
  have o2 : ∀ m, (growS σ tb m 1).objs[j]? = some (.cells (.agg [.slice tb (u8s xs)])) := fun m => by rw [growS_objs]; exact w3
  have c2 := fun m => cellAt_known (o2 m)
  refine tcalls_walk Try.f40 _ [] Try.func40 rfl rfl rfl mixed (Nat.le_of_ble_eq_true rfl) rfl fun hlen => ?_
  repeat' (first | (simp -dsimp only [↓reduceIte, go_sem, c, w3, o2, c2, h6]) | (refine arr_intro fun _ => ?_) | (refine later_intro ⟨keeps_nil, ?_⟩) | (refine later_intro ⟨keeps_refl, ?_⟩) | (with_reducible refine keeps_go ?_ ?_; focus (first | (simp [keeps_cons, keeps_none, objs_app, objs_app0]; done) | (simp only [keeps_cons, keeps_none, objs_app0, objs_app, and_true]; first | rfl | exact ⟨rfl, rfl⟩ | exact ⟨rfl, rfl, rfl⟩))) | (with_reducible refine (And.intro (a := keeps _ _ _) ?_ ?_); focus (first | (simp [keeps_cons, keeps_none, objs_app, objs_app0]; done) | (simp only [keeps_cons, keeps_none, objs_app0, objs_app, and_true]; first | rfl | exact ⟨rfl, rfl⟩ | exact ⟨rfl, rfl, rfl⟩))) | (refine both_ways ?_ ?_) | (rw [wrap_i64 (by omega) (by omega)]) | (refine guardV_split (fun h => ?_) (fun h => ?_) <;> (try rw [h]) <;> (try simp at h) <;> (try (exfalso; omega))) | (refine text_c ?_) | (refine append_text E51 Try.underlying9 w2 (by omega) (by simp only [maxL]; omega) ?_))
  refine hK _ (h.grow w1 w2 w3 (by simp)) (by simp; omega)

theorem bytes_c {d : Dig} {σ : AST} {K : AV → AST → Prop} (hK : K (.str d.l) σ) : TCalls Try.prog 58 [.dig d] σ K := by
  refine TCalls.drop ?_
  refine tcalls_walk Try.f58 _ [.tmp 2] Try.func58 rfl rfl rfl mixed (Nat.le_of_ble_eq_true rfl) rfl fun hlen => ?_
  repeat' (first | (simp -dsimp only [↓reduceIte, go_sem, slice23 (σ := σ), conv_arr (P := Try.prog) (s := 89) (d := 9) (by kernel_rfl) (by kernel_rfl) Try.underlying9]) | (refine arr_intro fun _ => ?_) | (refine later_intro ⟨keeps_nil, ?_⟩) | (refine later_intro ⟨keeps_refl, ?_⟩) | (with_reducible refine keeps_go ?_ ?_; focus (first | (simp [keeps_cons, keeps_none, objs_app, objs_app0]; done) | (simp only [keeps_cons, keeps_none, objs_app0, objs_app, and_true]; first | rfl | exact ⟨rfl, rfl⟩ | exact ⟨rfl, rfl, rfl⟩))) | (with_reducible refine (And.intro (a := keeps _ _ _) ?_ ?_); focus (first | (simp [keeps_cons, keeps_none, objs_app, objs_app0]; done) | (simp only [keeps_cons, keeps_none, objs_app0, objs_app, and_true]; first | rfl | exact ⟨rfl, rfl⟩ | exact ⟨rfl, rfl, rfl⟩))) | (refine both_ways ?_ ?_) | (rw [wrap_i64 (by omega) (by omega)]) | (refine guardV_split (fun h => ?_) (fun h => ?_) <;> (try rw [h]) <;> (try simp at h) <;> (try (exfalso; omega))))
  exact ⟨Ext.app _ _, rfl, by simpa [AV.strip] using hK⟩

abbrev digS (d : Dig) : List UInt8 := textS d.l
theorem digs_take {l : List Dig} {i : Nat} : ((l.take i).flatMap digS).length ≤ l.length * 53 := flatN (f := digS) fun d _ => textS_le (m := 32) (by simp [d.h]) (by omega)
theorem wDigs_c {l : List Dig} (n : Nat) {tk : Tk} {j : Nat} {xs : List UInt8} {F : List (Nat × AObj)} {σ0 σ : AST} {K : AV → AST → Prop} (hn : l.length ≤ n) (hn2 : n ≤ 1000) (hx : xs.length ≤ 1000000) (h : WF σ0 σ j xs F)
    (hK : ∀ s, WF σ0 s j (xs ++ l.flatMap digS) F → (xs ++ l.flatMap digS).length ≤ xs.length + 53 * n → K (.tuple []) s) : TCalls Try.prog 41 [.ptr (some (j, [])), .slice tk (l.map AV.dig)] σ K := by
  refine tcalls_walk Try.f41 _ [] Try.func41 rfl rfl rfl mixed (Nat.le_of_ble_eq_true rfl) rfl fun hlen => ?_
  repeat' (first | (simp -dsimp only [↓reduceIte, go_sem]) | (refine arr_intro fun _ => ?_) | (refine later_intro ⟨keeps_nil, ?_⟩) | (refine later_intro ⟨keeps_refl, ?_⟩) | (with_reducible refine keeps_go ?_ ?_; focus (first | (simp [keeps_cons, keeps_none, objs_app, objs_app0]; done) | (simp only [keeps_cons, keeps_none, objs_app0, objs_app, and_true]; first | rfl | exact ⟨rfl, rfl⟩ | exact ⟨rfl, rfl, rfl⟩))) | (with_reducible refine (And.intro (a := keeps _ _ _) ?_ ?_); focus (first | (simp [keeps_cons, keeps_none, objs_app, objs_app0]; done) | (simp only [keeps_cons, keeps_none, objs_app0, objs_app, and_true]; first | rfl | exact ⟨rfl, rfl⟩ | exact ⟨rfl, rfl, rfl⟩))) | (refine both_ways ?_ ?_) | (rw [wrap_i64 (by omega) (by omega)]) | (refine guardV_split (fun h => ?_) (fun h => ?_) <;> (try rw [h]) <;> (try simp at h) <;> (try (exfalso; omega))))
  refine awp_rounds (fun (i : Nat) τ s => i ≤ l.length ∧ WF σ0 s j (xs ++ (l.take i).flatMap digS) F ∧ τ 0 = .ptr (some (j, [])) ∧ τ 6 = .slice tk (l.map AV.dig) ∧ τ 7 = .int .i64 l.length ∧ τ 8 = .int .i64 i) (fun i => l.length - i) 0 ?_ ?_
  · refine ⟨by omega, h.eqn (by simp), ?_, ?_, ?_, ?_⟩ <;> (try simp only [go_sem]) <;> rfl
  · rintro i τ s ⟨hi, hw, t0, t6, t7, t8⟩
    have hNi := digs_take (l := l) (i := i)
    simp -dsimp only [↓reduceIte, go_sem, t0, t6, t7, t8]
    refine boolW_split (fun hb => ?_) (fun hb => ?_)
    · have hb : i < l.length := by simp at hb; omega
      obtain ⟨y, hy, hm⟩ := get_of_lt hb
      have htk : (l.take (i + 1)).flatMap digS = (l.take i).flatMap digS ++ digS y := by
        rw [List.take_add_one, hy]; simp
      repeat' (first | (simp -dsimp only [↓reduceIte, go_sem, t0, t6, t7, t8]) | (refine arr_intro fun _ => ?_) | (refine later_intro ⟨keeps_nil, ?_⟩) | (refine later_intro ⟨keeps_refl, ?_⟩) | (with_reducible refine keeps_go ?_ ?_; focus (first | (simp [keeps_cons, keeps_none, objs_app, objs_app0]; done) | (simp only [keeps_cons, keeps_none, objs_app0, objs_app, and_true]; first | rfl | exact ⟨rfl, rfl⟩ | exact ⟨rfl, rfl, rfl⟩))) | (with_reducible refine (And.intro (a := keeps _ _ _) ?_ ?_); focus (first | (simp [keeps_cons, keeps_none, objs_app, objs_app0]; done) | (simp only [keeps_cons, keeps_none, objs_app0, objs_app, and_true]; first | rfl | exact ⟨rfl, rfl⟩ | exact ⟨rfl, rfl, rfl⟩))) | (refine both_ways ?_ ?_) | (rw [wrap_i64 (by omega) (by omega)]) | (refine guardV_split (fun h => ?_) (fun h => ?_) <;> (try rw [h]) <;> (try simp at h) <;> (try (exfalso; omega))) | (refine nth_get hy ?_) | (refine bytes_c ?_))
      refine wText_c 32 (by simp [y.h]) (by omega) (by simp only [List.length_append]; omega) hw.push fun s2 hw2 _ => ?_
      repeat' (first | (simp -dsimp only [↓reduceIte, go_sem, t0, t6, t7, t8]) | (refine arr_intro fun _ => ?_) | (refine later_intro ⟨keeps_nil, ?_⟩) | (refine later_intro ⟨keeps_refl, ?_⟩) | (with_reducible refine keeps_go ?_ ?_; focus (first | (simp [keeps_cons, keeps_none, objs_app, objs_app0]; done) | (simp only [keeps_cons, keeps_none, objs_app0, objs_app, and_true]; first | rfl | exact ⟨rfl, rfl⟩ | exact ⟨rfl, rfl, rfl⟩))) | (with_reducible refine (And.intro (a := keeps _ _ _) ?_ ?_); focus (first | (simp [keeps_cons, keeps_none, objs_app, objs_app0]; done) | (simp only [keeps_cons, keeps_none, objs_app0, objs_app, and_true]; first | rfl | exact ⟨rfl, rfl⟩ | exact ⟨rfl, rfl, rfl⟩))) | (refine both_ways ?_ ?_) | (rw [wrap_i64 (by omega) (by omega)]) | (refine guardV_split (fun h => ?_) (fun h => ?_) <;> (try rw [h]) <;> (try simp at h) <;> (try (exfalso; omega))))
      refine later_intro ⟨i + 1, by omega, by omega, ?_, ?_, ?_, ?_, ?_⟩ <;> (try simp only [go_sem, t0, t6, t7, t8])
      · rw [htk, ← List.append_assoc]; exact hw2.mono (by simp +contextual)
      · rfl
    · have hb : i = l.length := by simp at hb; omega
      subst hb
      repeat' (first | (simp -dsimp only [↓reduceIte, go_sem, t0, t6, t7, t8]) | (refine arr_intro fun _ => ?_) | (refine later_intro ⟨keeps_nil, ?_⟩) | (refine later_intro ⟨keeps_refl, ?_⟩) | (with_reducible refine keeps_go ?_ ?_; focus (first | (simp [keeps_cons, keeps_none, objs_app, objs_app0]; done) | (simp only [keeps_cons, keeps_none, objs_app0, objs_app, and_true]; first | rfl | exact ⟨rfl, rfl⟩ | exact ⟨rfl, rfl, rfl⟩))) | (with_reducible refine (And.intro (a := keeps _ _ _) ?_ ?_); focus (first | (simp [keeps_cons, keeps_none, objs_app, objs_app0]; done) | (simp only [keeps_cons, keeps_none, objs_app0, objs_app, and_true]; first | rfl | exact ⟨rfl, rfl⟩ | exact ⟨rfl, rfl, rfl⟩))) | (refine both_ways ?_ ?_) | (rw [wrap_i64 (by omega) (by omega)]) | (refine guardV_split (fun h => ?_) (fun h => ?_) <;> (try rw [h]) <;> (try simp at h) <;> (try (exfalso; omega))))
      exact hK s (hw.eqn (by simp)) (by simp at hNi ⊢; omega)


def pendB (p : Pend) : List UInt8 := [p.client, p.num, p.kind, p.target].flatMap numS ++ [p.asked, p.proof].flatMap digS
def ansB (x : Rep) : List UInt8 := [x.num, x.last].flatMap numS ++ textS x.view ++ [x.commit].flatMap digS ++ [(x.pending.length : Int)].flatMap numS ++ x.pending.flatMap pendB ++ [x.vnum].flatMap numS ++ textS x.value ++ [x.data].flatMap digS ++ textS x.seen ++ [x.seenTag].flatMap digS
theorem Pend.Ok.in_ {p : Pend} (h : p.Ok) : InI [p.client, p.num, p.kind, p.target] := by
  obtain ⟨h1, h2, h3, h4⟩ := h
  simp only [In] at h1 h2 h3 h4
  intro n hn
  simp at hn
  omega
theorem wAns_c {x : Rep} (hok : x.Ok) {tk : Tk} {j : Nat} {xs : List UInt8} {F : List (Nat × AObj)} {σ0 σ : AST} {K : AV → AST → Prop} (hx : xs.length ≤ 1000) (h : WF σ0 σ j xs F)
    (hK : ∀ s, WF σ0 s j (xs ++ ansB x) F → (xs ++ ansB x).length ≤ 100000 → K (.tuple []) s) : TCalls Try.prog 42 [.ptr (some (j, [])), repV tk x] σ K := by
  obtain ⟨hp, h1, h2, h3, h4, h5, h6, h7, h8⟩ := hok
  simp only [In, ViewOk] at h1 h2 h5 h6 h7
  refine tcalls_walk Try.f42 _ [] Try.func42 rfl rfl rfl mixed (Nat.le_of_ble_eq_true rfl) rfl fun hlen => ?_
  have h := h.push (o := .cells (repV tk x))
  generalize hk : σ.objs.length = k at h
  have c := h.cell (k := k) (List.mem_cons_self ..)
  repeat' (first | (simp -dsimp only [↓reduceIte, go_sem, hk, c]) | (refine arr_intro fun _ => ?_) | (refine later_intro ⟨keeps_nil, ?_⟩) | (refine later_intro ⟨keeps_refl, ?_⟩) | (with_reducible refine keeps_go ?_ ?_; focus (first | (simp [keeps_cons, keeps_none, objs_app, objs_app0]; done) | (simp only [keeps_cons, keeps_none, objs_app0, objs_app, and_true]; first | rfl | exact ⟨rfl, rfl⟩ | exact ⟨rfl, rfl, rfl⟩))) | (with_reducible refine (And.intro (a := keeps _ _ _) ?_ ?_); focus (first | (simp [keeps_cons, keeps_none, objs_app, objs_app0]; done) | (simp only [keeps_cons, keeps_none, objs_app0, objs_app, and_true]; first | rfl | exact ⟨rfl, rfl⟩ | exact ⟨rfl, rfl, rfl⟩))) | (refine both_ways ?_ ?_) | (rw [wrap_i64 (by omega) (by omega)]) | (refine guardV_split (fun h => ?_) (fun h => ?_) <;> (try rw [h]) <;> (try simp at h) <;> (try (exfalso; omega))) | (refine bI2 ?_))
  refine wInts_c 2 (l := [x.num, x.last]) (by (intro n hn; simp at hn; omega)) (by simp) (by omega) (by omega) h fun s h b => ?_
  have c := h.cell (k := k) (List.mem_cons_self ..)
  repeat' (first | (simp -dsimp only [↓reduceIte, go_sem, c]) | (refine arr_intro fun _ => ?_) | (refine later_intro ⟨keeps_nil, ?_⟩) | (refine later_intro ⟨keeps_refl, ?_⟩) | (with_reducible refine keeps_go ?_ ?_; focus (first | (simp [keeps_cons, keeps_none, objs_app, objs_app0]; done) | (simp only [keeps_cons, keeps_none, objs_app0, objs_app, and_true]; first | rfl | exact ⟨rfl, rfl⟩ | exact ⟨rfl, rfl, rfl⟩))) | (with_reducible refine (And.intro (a := keeps _ _ _) ?_ ?_); focus (first | (simp [keeps_cons, keeps_none, objs_app, objs_app0]; done) | (simp only [keeps_cons, keeps_none, objs_app0, objs_app, and_true]; first | rfl | exact ⟨rfl, rfl⟩ | exact ⟨rfl, rfl, rfl⟩))) | (refine both_ways ?_ ?_) | (rw [wrap_i64 (by omega) (by omega)]) | (refine guardV_split (fun h => ?_) (fun h => ?_) <;> (try rw [h]) <;> (try simp at h) <;> (try (exfalso; omega))) | (refine bI1 ?_) | (refine bI2 ?_) | (refine bI3 ?_) | (refine bI4 ?_) | (refine bD1 ?_) | (refine bD2 ?_))
  refine wText_c 512 (by omega) (by omega) (by omega) h fun s h b => ?_
  have c := h.cell (k := k) (List.mem_cons_self ..)
  repeat' (first | (simp -dsimp only [↓reduceIte, go_sem, c]) | (refine arr_intro fun _ => ?_) | (refine later_intro ⟨keeps_nil, ?_⟩) | (refine later_intro ⟨keeps_refl, ?_⟩) | (with_reducible refine keeps_go ?_ ?_; focus (first | (simp [keeps_cons, keeps_none, objs_app, objs_app0]; done) | (simp only [keeps_cons, keeps_none, objs_app0, objs_app, and_true]; first | rfl | exact ⟨rfl, rfl⟩ | exact ⟨rfl, rfl, rfl⟩))) | (with_reducible refine (And.intro (a := keeps _ _ _) ?_ ?_); focus (first | (simp [keeps_cons, keeps_none, objs_app, objs_app0]; done) | (simp only [keeps_cons, keeps_none, objs_app0, objs_app, and_true]; first | rfl | exact ⟨rfl, rfl⟩ | exact ⟨rfl, rfl, rfl⟩))) | (refine both_ways ?_ ?_) | (rw [wrap_i64 (by omega) (by omega)]) | (refine guardV_split (fun h => ?_) (fun h => ?_) <;> (try rw [h]) <;> (try simp at h) <;> (try (exfalso; omega))) | (refine bI1 ?_) | (refine bI2 ?_) | (refine bI3 ?_) | (refine bI4 ?_) | (refine bD1 ?_) | (refine bD2 ?_))
  refine wDigs_c 1 (l := [x.commit]) (by simp) (by omega) (by omega) h fun s h b => ?_
  have c := h.cell (k := k) (List.mem_cons_self ..)
  repeat' (first | (simp -dsimp only [↓reduceIte, go_sem, c]) | (refine arr_intro fun _ => ?_) | (refine later_intro ⟨keeps_nil, ?_⟩) | (refine later_intro ⟨keeps_refl, ?_⟩) | (with_reducible refine keeps_go ?_ ?_; focus (first | (simp [keeps_cons, keeps_none, objs_app, objs_app0]; done) | (simp only [keeps_cons, keeps_none, objs_app0, objs_app, and_true]; first | rfl | exact ⟨rfl, rfl⟩ | exact ⟨rfl, rfl, rfl⟩))) | (with_reducible refine (And.intro (a := keeps _ _ _) ?_ ?_); focus (first | (simp [keeps_cons, keeps_none, objs_app, objs_app0]; done) | (simp only [keeps_cons, keeps_none, objs_app0, objs_app, and_true]; first | rfl | exact ⟨rfl, rfl⟩ | exact ⟨rfl, rfl, rfl⟩))) | (refine both_ways ?_ ?_) | (rw [wrap_i64 (by omega) (by omega)]) | (refine guardV_split (fun h => ?_) (fun h => ?_) <;> (try rw [h]) <;> (try simp at h) <;> (try (exfalso; omega))) | (refine bI1 ?_) | (refine bI2 ?_) | (refine bI3 ?_) | (refine bI4 ?_) | (refine bD1 ?_) | (refine bD2 ?_))
  refine wInts_c 1 (l := [(x.pending.length : Int)]) (by (intro n hn; simp at hn; omega)) (by simp) (by omega) (by omega) h fun s h b => ?_
  have c := h.cell (k := k) (List.mem_cons_self ..)
  repeat' (first | (simp -dsimp only [↓reduceIte, go_sem, c]) | (refine arr_intro fun _ => ?_) | (refine later_intro ⟨keeps_nil, ?_⟩) | (refine later_intro ⟨keeps_refl, ?_⟩) | (with_reducible refine keeps_go ?_ ?_; focus (first | (simp [keeps_cons, keeps_none, objs_app, objs_app0]; done) | (simp only [keeps_cons, keeps_none, objs_app0, objs_app, and_true]; first | rfl | exact ⟨rfl, rfl⟩ | exact ⟨rfl, rfl, rfl⟩))) | (with_reducible refine (And.intro (a := keeps _ _ _) ?_ ?_); focus (first | (simp [keeps_cons, keeps_none, objs_app, objs_app0]; done) | (simp only [keeps_cons, keeps_none, objs_app0, objs_app, and_true]; first | rfl | exact ⟨rfl, rfl⟩ | exact ⟨rfl, rfl, rfl⟩))) | (refine both_ways ?_ ?_) | (rw [wrap_i64 (by omega) (by omega)]) | (refine guardV_split (fun h => ?_) (fun h => ?_) <;> (try rw [h]) <;> (try simp at h) <;> (try (exfalso; omega))) | (refine bI1 ?_) | (refine bI2 ?_) | (refine bI3 ?_) | (refine bI4 ?_) | (refine bD1 ?_) | (refine bD2 ?_))
  have hz : ∀ i, ((x.pending.take i).flatMap pendB).length ≤ x.pending.length * 194 := fun i => flatN fun p hm => by
    have h1 := numsN (hp p hm).in_ 4
    have h2 := digs_take (l := [p.asked, p.proof]) (i := 2)
    simp at h1 h2
    simp [pendB]; omega
  generalize hys : xs ++ [x.num, x.last].flatMap numS ++ textS x.view ++ [x.commit].flatMap digS ++ [(x.pending.length : Int)].flatMap numS = ys at h b
  have hy : ys.length ≤ 2000 := by omega
  refine awp_rounds (fun (i : Nat) τ s => i ≤ x.pending.length ∧ WF σ0 s j (ys ++ (x.pending.take i).flatMap pendB) ((k, .cells (repV tk x)) :: F) ∧ τ 0 = .ptr (some (j, [])) ∧ τ 3 = .ptr (some (k, [])) ∧ τ 29 = .slice tk (x.pending.map pendV) ∧ τ 30 = .int .i64 x.pending.length ∧ τ 31 = .int .i64 i) (fun i => x.pending.length - i) 0 ?_ ?_
  · refine ⟨by omega, h.eqn (by simp), ?_, ?_, ?_, ?_, ?_⟩ <;> (try simp only [go_sem]) <;> rfl
  · rintro i τ s ⟨hi, h, t0, t3, t29, t30, t31⟩
    have hzi := hz i
    simp -dsimp only [↓reduceIte, go_sem, t0, t3, t29, t30, t31]
    refine boolW_split (fun hb => ?_) (fun hb => ?_)
    · have hb : i < x.pending.length := by simp at hb; omega
      obtain ⟨y, hy, hm⟩ := get_of_lt hb
      have htk : (x.pending.take (i + 1)).flatMap pendB = (x.pending.take i).flatMap pendB ++ pendB y := by
        rw [List.take_add_one, hy]; simp
      have hq := (hp y hm).in_
      repeat' (first | (simp -dsimp only [↓reduceIte, go_sem, t0, t3, t29, t30, t31]) | (refine arr_intro fun _ => ?_) | (refine later_intro ⟨keeps_nil, ?_⟩) | (refine later_intro ⟨keeps_refl, ?_⟩) | (with_reducible refine keeps_go ?_ ?_; focus (first | (simp [keeps_cons, keeps_none, objs_app, objs_app0]; done) | (simp only [keeps_cons, keeps_none, objs_app0, objs_app, and_true]; first | rfl | exact ⟨rfl, rfl⟩ | exact ⟨rfl, rfl, rfl⟩))) | (with_reducible refine (And.intro (a := keeps _ _ _) ?_ ?_); focus (first | (simp [keeps_cons, keeps_none, objs_app, objs_app0]; done) | (simp only [keeps_cons, keeps_none, objs_app0, objs_app, and_true]; first | rfl | exact ⟨rfl, rfl⟩ | exact ⟨rfl, rfl, rfl⟩))) | (refine both_ways ?_ ?_) | (rw [wrap_i64 (by omega) (by omega)]) | (refine guardV_split (fun h => ?_) (fun h => ?_) <;> (try rw [h]) <;> (try simp at h) <;> (try (exfalso; omega))) | (refine nth_get hy ?_) | (refine bI4 ?_))
      have h := h.push (o := .cells (pendV y))
      generalize hk : s.objs.length = k2 at h
      have hyz : (ys ++ (x.pending.take i).flatMap pendB).length ≤ 4000 := by simp only [List.length_append]; omega
      refine wInts_c 4 (l := [y.client, y.num, y.kind, y.target]) (hq) (by simp) (by omega) (by omega) h fun s h b => ?_
      have c := h.cell (k := k2) (List.mem_cons_self ..)
      repeat' (first | (simp -dsimp only [↓reduceIte, go_sem, t0, t3, t29, t30, t31, hk, c]) | (refine arr_intro fun _ => ?_) | (refine later_intro ⟨keeps_nil, ?_⟩) | (refine later_intro ⟨keeps_refl, ?_⟩) | (with_reducible refine keeps_go ?_ ?_; focus (first | (simp [keeps_cons, keeps_none, objs_app, objs_app0]; done) | (simp only [keeps_cons, keeps_none, objs_app0, objs_app, and_true]; first | rfl | exact ⟨rfl, rfl⟩ | exact ⟨rfl, rfl, rfl⟩))) | (with_reducible refine (And.intro (a := keeps _ _ _) ?_ ?_); focus (first | (simp [keeps_cons, keeps_none, objs_app, objs_app0]; done) | (simp only [keeps_cons, keeps_none, objs_app0, objs_app, and_true]; first | rfl | exact ⟨rfl, rfl⟩ | exact ⟨rfl, rfl, rfl⟩))) | (refine both_ways ?_ ?_) | (rw [wrap_i64 (by omega) (by omega)]) | (refine guardV_split (fun h => ?_) (fun h => ?_) <;> (try rw [h]) <;> (try simp at h) <;> (try (exfalso; omega))) | (refine bI1 ?_) | (refine bI2 ?_) | (refine bI3 ?_) | (refine bI4 ?_) | (refine bD1 ?_) | (refine bD2 ?_))
      refine wDigs_c 2 (l := [y.asked, y.proof]) (by simp) (by omega) (by omega) h fun s h b => ?_
      have c := h.cell (k := k2) (List.mem_cons_self ..)
      repeat' (first | (simp -dsimp only [↓reduceIte, go_sem, t0, t3, t29, t30, t31, hk, c]) | (refine arr_intro fun _ => ?_) | (refine later_intro ⟨keeps_nil, ?_⟩) | (refine later_intro ⟨keeps_refl, ?_⟩) | (with_reducible refine keeps_go ?_ ?_; focus (first | (simp [keeps_cons, keeps_none, objs_app, objs_app0]; done) | (simp only [keeps_cons, keeps_none, objs_app0, objs_app, and_true]; first | rfl | exact ⟨rfl, rfl⟩ | exact ⟨rfl, rfl, rfl⟩))) | (with_reducible refine (And.intro (a := keeps _ _ _) ?_ ?_); focus (first | (simp [keeps_cons, keeps_none, objs_app, objs_app0]; done) | (simp only [keeps_cons, keeps_none, objs_app0, objs_app, and_true]; first | rfl | exact ⟨rfl, rfl⟩ | exact ⟨rfl, rfl, rfl⟩))) | (refine both_ways ?_ ?_) | (rw [wrap_i64 (by omega) (by omega)]) | (refine guardV_split (fun h => ?_) (fun h => ?_) <;> (try rw [h]) <;> (try simp at h) <;> (try (exfalso; omega))) | (refine bI1 ?_) | (refine bI2 ?_) | (refine bI3 ?_) | (refine bI4 ?_) | (refine bD1 ?_) | (refine bD2 ?_))
      refine later_intro ⟨i + 1, by omega, by omega, ?_, ?_, ?_, ?_, ?_, ?_⟩ <;> (try simp only [go_sem, t0, t3, t29, t30, t31])
      · rw [htk]; exact (h.mono (by simp +contextual)).eqn (by simp [pendB])
      · rfl
    · have hb : i = x.pending.length := by simp at hb; omega
      subst hb
      have c := h.cell (k := k) (List.mem_cons_self ..)
      have hyz : (ys ++ (x.pending.take x.pending.length).flatMap pendB).length ≤ 4000 := by simp only [List.length_append]; omega
      repeat' (first | (simp -dsimp only [↓reduceIte, go_sem, t0, t3, t29, t30, t31, c]) | (refine arr_intro fun _ => ?_) | (refine later_intro ⟨keeps_nil, ?_⟩) | (refine later_intro ⟨keeps_refl, ?_⟩) | (with_reducible refine keeps_go ?_ ?_; focus (first | (simp [keeps_cons, keeps_none, objs_app, objs_app0]; done) | (simp only [keeps_cons, keeps_none, objs_app0, objs_app, and_true]; first | rfl | exact ⟨rfl, rfl⟩ | exact ⟨rfl, rfl, rfl⟩))) | (with_reducible refine (And.intro (a := keeps _ _ _) ?_ ?_); focus (first | (simp [keeps_cons, keeps_none, objs_app, objs_app0]; done) | (simp only [keeps_cons, keeps_none, objs_app0, objs_app, and_true]; first | rfl | exact ⟨rfl, rfl⟩ | exact ⟨rfl, rfl, rfl⟩))) | (refine both_ways ?_ ?_) | (rw [wrap_i64 (by omega) (by omega)]) | (refine guardV_split (fun h => ?_) (fun h => ?_) <;> (try rw [h]) <;> (try simp at h) <;> (try (exfalso; omega))) | (refine bI1 ?_))
      refine wInts_c 1 (l := [x.vnum]) (by (intro n hn; simp at hn; omega)) (by simp) (by omega) (by omega) h fun s h b => ?_
      have c := h.cell (k := k) (List.mem_cons_self ..)
      repeat' (first | (simp -dsimp only [↓reduceIte, go_sem, t0, t3, t29, t30, t31, c]) | (refine arr_intro fun _ => ?_) | (refine later_intro ⟨keeps_nil, ?_⟩) | (refine later_intro ⟨keeps_refl, ?_⟩) | (with_reducible refine keeps_go ?_ ?_; focus (first | (simp [keeps_cons, keeps_none, objs_app, objs_app0]; done) | (simp only [keeps_cons, keeps_none, objs_app0, objs_app, and_true]; first | rfl | exact ⟨rfl, rfl⟩ | exact ⟨rfl, rfl, rfl⟩))) | (with_reducible refine (And.intro (a := keeps _ _ _) ?_ ?_); focus (first | (simp [keeps_cons, keeps_none, objs_app, objs_app0]; done) | (simp only [keeps_cons, keeps_none, objs_app0, objs_app, and_true]; first | rfl | exact ⟨rfl, rfl⟩ | exact ⟨rfl, rfl, rfl⟩))) | (refine both_ways ?_ ?_) | (rw [wrap_i64 (by omega) (by omega)]) | (refine guardV_split (fun h => ?_) (fun h => ?_) <;> (try rw [h]) <;> (try simp at h) <;> (try (exfalso; omega))) | (refine bI1 ?_) | (refine bI2 ?_) | (refine bI3 ?_) | (refine bI4 ?_) | (refine bD1 ?_) | (refine bD2 ?_))
      refine wText_c 256 (by omega) (by omega) (by omega) h fun s h b => ?_
      have c := h.cell (k := k) (List.mem_cons_self ..)
      repeat' (first | (simp -dsimp only [↓reduceIte, go_sem, t0, t3, t29, t30, t31, c]) | (refine arr_intro fun _ => ?_) | (refine later_intro ⟨keeps_nil, ?_⟩) | (refine later_intro ⟨keeps_refl, ?_⟩) | (with_reducible refine keeps_go ?_ ?_; focus (first | (simp [keeps_cons, keeps_none, objs_app, objs_app0]; done) | (simp only [keeps_cons, keeps_none, objs_app0, objs_app, and_true]; first | rfl | exact ⟨rfl, rfl⟩ | exact ⟨rfl, rfl, rfl⟩))) | (with_reducible refine (And.intro (a := keeps _ _ _) ?_ ?_); focus (first | (simp [keeps_cons, keeps_none, objs_app, objs_app0]; done) | (simp only [keeps_cons, keeps_none, objs_app0, objs_app, and_true]; first | rfl | exact ⟨rfl, rfl⟩ | exact ⟨rfl, rfl, rfl⟩))) | (refine both_ways ?_ ?_) | (rw [wrap_i64 (by omega) (by omega)]) | (refine guardV_split (fun h => ?_) (fun h => ?_) <;> (try rw [h]) <;> (try simp at h) <;> (try (exfalso; omega))) | (refine bI1 ?_) | (refine bI2 ?_) | (refine bI3 ?_) | (refine bI4 ?_) | (refine bD1 ?_) | (refine bD2 ?_))
      refine wDigs_c 1 (l := [x.data]) (by simp) (by omega) (by omega) h fun s h b => ?_
      have c := h.cell (k := k) (List.mem_cons_self ..)
      repeat' (first | (simp -dsimp only [↓reduceIte, go_sem, t0, t3, t29, t30, t31, c]) | (refine arr_intro fun _ => ?_) | (refine later_intro ⟨keeps_nil, ?_⟩) | (refine later_intro ⟨keeps_refl, ?_⟩) | (with_reducible refine keeps_go ?_ ?_; focus (first | (simp [keeps_cons, keeps_none, objs_app, objs_app0]; done) | (simp only [keeps_cons, keeps_none, objs_app0, objs_app, and_true]; first | rfl | exact ⟨rfl, rfl⟩ | exact ⟨rfl, rfl, rfl⟩))) | (with_reducible refine (And.intro (a := keeps _ _ _) ?_ ?_); focus (first | (simp [keeps_cons, keeps_none, objs_app, objs_app0]; done) | (simp only [keeps_cons, keeps_none, objs_app0, objs_app, and_true]; first | rfl | exact ⟨rfl, rfl⟩ | exact ⟨rfl, rfl, rfl⟩))) | (refine both_ways ?_ ?_) | (rw [wrap_i64 (by omega) (by omega)]) | (refine guardV_split (fun h => ?_) (fun h => ?_) <;> (try rw [h]) <;> (try simp at h) <;> (try (exfalso; omega))) | (refine bI1 ?_) | (refine bI2 ?_) | (refine bI3 ?_) | (refine bI4 ?_) | (refine bD1 ?_) | (refine bD2 ?_))
      refine wText_c 512 (by omega) (by omega) (by omega) h fun s h b => ?_
      have c := h.cell (k := k) (List.mem_cons_self ..)
      repeat' (first | (simp -dsimp only [↓reduceIte, go_sem, t0, t3, t29, t30, t31, c]) | (refine arr_intro fun _ => ?_) | (refine later_intro ⟨keeps_nil, ?_⟩) | (refine later_intro ⟨keeps_refl, ?_⟩) | (with_reducible refine keeps_go ?_ ?_; focus (first | (simp [keeps_cons, keeps_none, objs_app, objs_app0]; done) | (simp only [keeps_cons, keeps_none, objs_app0, objs_app, and_true]; first | rfl | exact ⟨rfl, rfl⟩ | exact ⟨rfl, rfl, rfl⟩))) | (with_reducible refine (And.intro (a := keeps _ _ _) ?_ ?_); focus (first | (simp [keeps_cons, keeps_none, objs_app, objs_app0]; done) | (simp only [keeps_cons, keeps_none, objs_app0, objs_app, and_true]; first | rfl | exact ⟨rfl, rfl⟩ | exact ⟨rfl, rfl, rfl⟩))) | (refine both_ways ?_ ?_) | (rw [wrap_i64 (by omega) (by omega)]) | (refine guardV_split (fun h => ?_) (fun h => ?_) <;> (try rw [h]) <;> (try simp at h) <;> (try (exfalso; omega))) | (refine bI1 ?_) | (refine bI2 ?_) | (refine bI3 ?_) | (refine bI4 ?_) | (refine bD1 ?_) | (refine bD2 ?_))
      refine wDigs_c 1 (l := [x.seenTag]) (by simp) (by omega) (by omega) h fun s h b => ?_
      have c := h.cell (k := k) (List.mem_cons_self ..)
      repeat' (first | (simp -dsimp only [↓reduceIte, go_sem, t0, t3, t29, t30, t31, c]) | (refine arr_intro fun _ => ?_) | (refine later_intro ⟨keeps_nil, ?_⟩) | (refine later_intro ⟨keeps_refl, ?_⟩) | (with_reducible refine keeps_go ?_ ?_; focus (first | (simp [keeps_cons, keeps_none, objs_app, objs_app0]; done) | (simp only [keeps_cons, keeps_none, objs_app0, objs_app, and_true]; first | rfl | exact ⟨rfl, rfl⟩ | exact ⟨rfl, rfl, rfl⟩))) | (with_reducible refine (And.intro (a := keeps _ _ _) ?_ ?_); focus (first | (simp [keeps_cons, keeps_none, objs_app, objs_app0]; done) | (simp only [keeps_cons, keeps_none, objs_app0, objs_app, and_true]; first | rfl | exact ⟨rfl, rfl⟩ | exact ⟨rfl, rfl, rfl⟩))) | (refine both_ways ?_ ?_) | (rw [wrap_i64 (by omega) (by omega)]) | (refine guardV_split (fun h => ?_) (fun h => ?_) <;> (try rw [h]) <;> (try simp at h) <;> (try (exfalso; omega))) | (refine bI1 ?_) | (refine bI2 ?_) | (refine bI3 ?_) | (refine bI4 ?_) | (refine bD1 ?_) | (refine bD2 ?_))
      have e : ys ++ (x.pending.take x.pending.length).flatMap pendB ++ [x.vnum].flatMap numS ++ textS x.value ++ [x.data].flatMap digS ++ textS x.seen ++ [x.seenTag].flatMap digS = xs ++ ansB x := by
        rw [← hys]; simp [ansB]
      rw [e] at h b
      exact hK s (h.mono (by simp +contextual)) (by omega)
end Go.Aff.L10

