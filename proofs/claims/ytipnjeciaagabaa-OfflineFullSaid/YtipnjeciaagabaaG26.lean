import Derived.Test.YtipnjeciaagabaaG25

set_option linter.unusedSimpArgs false
set_option linter.unusedVariables false

/- Layer 10, walked: the reference's Right. -/
namespace Go.Aff.L10
open Go.Proofs Go.Aff Go.Aff.L01 Classical
set_option linter.unusedVariables false
set_option linter.unusedSimpArgs false
set_option maxRecDepth 20000
attribute [local go_sem] push_app app_app length_app cellAt_app cellAt_app0 set_app set_app0 objs_app objs_app0 List.cons_append List.nil_append List.length_cons List.length_nil List.getElem?_cons_zero List.getElem?_cons_succ List.set_cons_zero List.set_cons_succ List.length_map
attribute [-go_sem] cellAt_new
attribute [-simp] List.length_flatMap
attribute [local go_sem] Try.underlying3 Try.underlying4 Try.underlying5 Try.underlying9 Try.underlying29 Try.underlying30 Try.underlying33 Try.underlying38 Try.underlying24 Try.underlying89 subPs_0 subAt_0 subSet_0 subPs_1 subAt_1 subSet_1 subPs_2 subAt_2 subSet_2 subPs_3 subAt_3 subSet_3 subPs_4 subAt_4 subSet_4 subPs_5 subAt_5 subSet_5 sizes_sub shapes_sub fits_sub zero_sub zt_sub built_sub Try.underlying32 pendPs_0 pendAt_0 pendSet_0 pendPs_1 pendAt_1 pendSet_1 pendPs_2 pendAt_2 pendSet_2 pendPs_3 pendAt_3 pendSet_3 pendPs_4 pendAt_4 pendSet_4 pendPs_5 pendAt_5 pendSet_5 sizes_pend shapes_pend fits_pend zero_pend zt_pend built_pend Try.underlying98 repPs_0 repAt_0 repSet_0 repPs_1 repAt_1 repSet_1 repPs_2 repAt_2 repSet_2 repPs_3 repAt_3 repSet_3 repPs_4 repAt_4 repSet_4 repPs_5 repAt_5 repSet_5 repPs_6 repAt_6 repSet_6 repPs_7 repAt_7 repSet_7 repPs_8 repAt_8 repSet_8 repPs_9 repAt_9 repSet_9 sizes_rep shapes_rep fits_rep zero_rep zt_rep built_rep Try.underlying35 blobPs_0 blobAt_0 blobSet_0 blobPs_1 blobAt_1 blobSet_1 blobPs_2 blobAt_2 blobSet_2 blobPs_3 blobAt_3 blobSet_3 sizes_blob shapes_blob fits_blob zero_blob zt_blob built_blob Try.underlying37 msgPs_0 msgAt_0 msgSet_0 msgPs_1 msgAt_1 msgSet_1 msgPs_2 msgAt_2 msgSet_2 msgPs_3 msgAt_3 msgSet_3 msgPs_4 msgAt_4 msgSet_4 msgPs_5 msgAt_5 msgSet_5 msgPs_6 msgAt_6 msgSet_6 msgPs_7 msgAt_7 msgSet_7 msgPs_8 msgAt_8 msgSet_8 msgPs_9 msgAt_9 msgSet_9 sizes_msg shapes_msg fits_msg zero_msg zt_msg built_msg Try.underlying40 at_Ps_0 at_Set_0 at_Ps_1 at_Set_1 sizes_at_ shapes_at_
attribute [local go_sem] fits3 fits4 fits5 fits9 fits23 fits26 fits31 fits34 fits52 zt3 zero3 zt34 zero34 zt23 zero23 bin_sub_eql bin_pend_eql bin_pend_neq bin_blob_eql bin_dig23_eql bin_dig23_neq slice23
attribute [local go_sem ↓] blockQ_exit2
attribute [local simp] dig_ext
theorem appc {α : Type} {a : α} {l m : List α} : List.append (a :: l) m = a :: List.append l m := rfl
theorem appn {α : Type} {m : List α} : List.append [] m = m := rfl
attribute [local go_sem] bin_bool_ne appc appn

theorem refHist_c {t : List UInt8} {k : Int} {σ : AST} {K : AV → AST → Prop} (hk : -9223372036854775808 < k) (hk2 : k ≤ 9223372036854775807) (hK : K (.bool (decide (ViewOk k t))) σ) : TCalls Try.prog 51 [.str t, .int .i64 k] σ K := by
  refine tcalls_walk Try.f51 _ [.tmp 4] Try.func51 rfl rfl rfl mixed (Nat.le_of_ble_eq_true rfl) rfl fun hlen => ?_
  have hll : t.length ≤ 9223372036854775807 := hlen (.str t) (by simp)
  repeat' (first | (simp -dsimp only [↓reduceIte, go_sem]) | (refine arr_intro fun _ => ?_) | (refine later_intro ⟨keeps_nil, ?_⟩) | (refine later_intro ⟨keeps_refl, ?_⟩) | (with_reducible refine keeps_go ?_ ?_; focus (first | (simp [keeps_cons, keeps_none, objs_app, objs_app0]; done) | (simp only [keeps_cons, keeps_none, objs_app0, objs_app, and_true]; first | rfl | exact ⟨rfl, rfl⟩ | exact ⟨rfl, rfl, rfl⟩))) | (with_reducible refine (And.intro (a := keeps _ _ _) ?_ ?_); focus (first | (simp [keeps_cons, keeps_none, objs_app, objs_app0]; done) | (simp only [keeps_cons, keeps_none, objs_app0, objs_app, and_true]; first | rfl | exact ⟨rfl, rfl⟩ | exact ⟨rfl, rfl, rfl⟩))) | (refine both_ways ?_ ?_) | (rw [wrap_i64 (by omega) (by omega)]) | (refine guardV_split (fun h => ?_) (fun h => ?_) <;> (try rw [h]) <;> (try simp at h) <;> (try (exfalso; omega))))
  all_goals first
    | exact bool_end hK (by rw [eq_comm, decide_eq_false_iff_not]; intro hv; have := hv.2; omega)
    | skip
  refine awp_rounds (fun (i : Nat) τ s => s = σ ∧ i ≤ t.length ∧ (∀ (j : Nat) b, j < i → t[j]? = some b → (b.toNat : Int) < k) ∧ τ 0 = .str t ∧ τ 1 = .int .i64 k ∧ τ 5 = .int .i64 i) (fun i => t.length - i) 0 ?_ ?_
  · refine ⟨rfl, by omega, fun j y hj => by omega, ?_, ?_, ?_⟩ <;> (try simp only [go_sem]) <;> rfl
  · rintro i τ s ⟨rfl, hi, hall, t0, t1, t5⟩
    simp -dsimp only [↓reduceIte, go_sem, t0, t1, t5]
    refine arr_intro fun _ => ?_
    simp -dsimp only [↓reduceIte, go_sem, t0, t1, t5]
    refine boolW_split (fun hb => ?_) (fun hb => ?_)
    · have hb : i < t.length := by simp at hb; omega
      obtain ⟨y, hy, hm⟩ := get_of_lt hb
      have hy8 : (y.toNat : Int) < 256 := by have := y.toNat_lt; omega
      repeat' (first | (simp -dsimp only [↓reduceIte, go_sem, t0, t1, t5]) | (refine arr_intro fun _ => ?_) | (refine later_intro ⟨keeps_nil, ?_⟩) | (refine later_intro ⟨keeps_refl, ?_⟩) | (with_reducible refine keeps_go ?_ ?_; focus (first | (simp [keeps_cons, keeps_none, objs_app, objs_app0]; done) | (simp only [keeps_cons, keeps_none, objs_app0, objs_app, and_true]; first | rfl | exact ⟨rfl, rfl⟩ | exact ⟨rfl, rfl, rfl⟩))) | (with_reducible refine (And.intro (a := keeps _ _ _) ?_ ?_); focus (first | (simp [keeps_cons, keeps_none, objs_app, objs_app0]; done) | (simp only [keeps_cons, keeps_none, objs_app0, objs_app, and_true]; first | rfl | exact ⟨rfl, rfl⟩ | exact ⟨rfl, rfl, rfl⟩))) | (refine both_ways ?_ ?_) | (rw [wrap_i64 (by omega) (by omega)]) | (refine guardV_split (fun h => ?_) (fun h => ?_) <;> (try rw [h]) <;> (try simp at h) <;> (try (exfalso; omega))) | (refine nth_get hy ?_))
      · exact bool_end hK (by
          rw [eq_comm, decide_eq_false_iff_not]
          intro hv; have := hv.1 y hm; omega)
      · refine later_intro ⟨i + 1, by omega, rfl, by omega, ?_, ?_, ?_, ?_⟩ <;> (try simp only [go_sem, t0, t1, t5]) <;> (try rfl)
        intro j b hj hb'
        by_cases hji : j < i
        · exact hall j b hji hb'
        · obtain rfl : j = i := by omega
          rw [hy] at hb'; cases hb'; omega
    · have hb : i = t.length := by simp at hb; omega
      have ha : ∀ b ∈ t, (b.toNat : Int) < k := fun b hb2 => by
        obtain ⟨j, hj⟩ := List.mem_iff_getElem?.1 hb2
        exact hall j b (by have := (List.getElem?_eq_some_iff.1 hj).1; omega) hj
      repeat' (first | (simp -dsimp only [↓reduceIte, go_sem, t0, t1, t5]) | (refine arr_intro fun _ => ?_) | (refine later_intro ⟨keeps_nil, ?_⟩) | (refine later_intro ⟨keeps_refl, ?_⟩) | (with_reducible refine keeps_go ?_ ?_; focus (first | (simp [keeps_cons, keeps_none, objs_app, objs_app0]; done) | (simp only [keeps_cons, keeps_none, objs_app0, objs_app, and_true]; first | rfl | exact ⟨rfl, rfl⟩ | exact ⟨rfl, rfl, rfl⟩))) | (with_reducible refine (And.intro (a := keeps _ _ _) ?_ ?_); focus (first | (simp [keeps_cons, keeps_none, objs_app, objs_app0]; done) | (simp only [keeps_cons, keeps_none, objs_app0, objs_app, and_true]; first | rfl | exact ⟨rfl, rfl⟩ | exact ⟨rfl, rfl, rfl⟩))) | (refine both_ways ?_ ?_) | (rw [wrap_i64 (by omega) (by omega)]) | (refine guardV_split (fun h => ?_) (fun h => ?_) <;> (try rw [h]) <;> (try simp at h) <;> (try (exfalso; omega))))
      exact bool_end hK (by rw [eq_comm, decide_eq_true_eq]; exact ⟨ha, by omega, by omega, by omega⟩)

theorem refNums_c {l : List Int} {tk : Tk} {σ : AST} {K : AV → AST → Prop} (hK : K (.bool (decide (NumsOk l))) σ) : TCalls Try.prog 52 [.slice tk (l.map (AV.int .i64))] σ K := by
  refine tcalls_walk Try.f52 _ [.tmp 2] Try.func52 rfl rfl rfl mixed (Nat.le_of_ble_eq_true rfl) rfl fun hlen => ?_
  have hll : l.length ≤ 9223372036854775807 := by simpa [maxL, lenOk] using hlen _ (List.mem_cons_self ..)
  repeat' (first | (simp -dsimp only [↓reduceIte, go_sem]) | (refine arr_intro fun _ => ?_) | (refine later_intro ⟨keeps_nil, ?_⟩) | (refine later_intro ⟨keeps_refl, ?_⟩) | (with_reducible refine keeps_go ?_ ?_; focus (first | (simp [keeps_cons, keeps_none, objs_app, objs_app0]; done) | (simp only [keeps_cons, keeps_none, objs_app0, objs_app, and_true]; first | rfl | exact ⟨rfl, rfl⟩ | exact ⟨rfl, rfl, rfl⟩))) | (with_reducible refine (And.intro (a := keeps _ _ _) ?_ ?_); focus (first | (simp [keeps_cons, keeps_none, objs_app, objs_app0]; done) | (simp only [keeps_cons, keeps_none, objs_app0, objs_app, and_true]; first | rfl | exact ⟨rfl, rfl⟩ | exact ⟨rfl, rfl, rfl⟩))) | (refine both_ways ?_ ?_) | (rw [wrap_i64 (by omega) (by omega)]) | (refine guardV_split (fun h => ?_) (fun h => ?_) <;> (try rw [h]) <;> (try simp at h) <;> (try (exfalso; omega))))
  refine awp_rounds (fun (i : Nat) τ s => s = σ ∧ i ≤ l.length ∧ (∀ (j : Nat) n, j < i → l[j]? = some n → In 0 1099511627776 n ∧ ∀ m, 0 < j → l[j - 1]? = some m → m < n) ∧ τ 0 = .slice tk (l.map (AV.int .i64)) ∧ τ 3 = .int .i64 i) (fun i => l.length - i) 0 ?_ ?_
  · refine ⟨rfl, by omega, fun j y h => by omega, ?_, ?_⟩ <;> (try simp only [go_sem]) <;> rfl
  · rintro i τ s ⟨rfl, hi, hall, t0, t3⟩
    simp -dsimp only [↓reduceIte, go_sem, t0, t3]
    refine arr_intro fun _ => ?_
    simp -dsimp only [↓reduceIte, go_sem, t0, t3]
    refine boolW_split (fun hb => ?_) (fun hb => ?_)
    · have hb : i < l.length := by simp at hb; omega
      obtain ⟨y, hy, hm⟩ := get_of_lt hb
      have step : In 0 1099511627776 y → (∀ m, 0 < i → l[i - 1]? = some m → m < y) → ∀ (j : Nat) n, j < i + 1 → l[j]? = some n → In 0 1099511627776 n ∧ ∀ m, 0 < j → l[j - 1]? = some m → m < n := fun h1 h2 j n hj hn => by
        by_cases hji : j < i
        · exact hall j n hji hn
        · obtain rfl : j = i := by omega
          rw [hy] at hn; cases hn; exact ⟨h1, h2⟩
      repeat' (first | (simp -dsimp only [↓reduceIte, go_sem, t0, t3]) | (refine arr_intro fun _ => ?_) | (refine later_intro ⟨keeps_nil, ?_⟩) | (refine later_intro ⟨keeps_refl, ?_⟩) | (with_reducible refine keeps_go ?_ ?_; focus (first | (simp [keeps_cons, keeps_none, objs_app, objs_app0]; done) | (simp only [keeps_cons, keeps_none, objs_app0, objs_app, and_true]; first | rfl | exact ⟨rfl, rfl⟩ | exact ⟨rfl, rfl, rfl⟩))) | (with_reducible refine (And.intro (a := keeps _ _ _) ?_ ?_); focus (first | (simp [keeps_cons, keeps_none, objs_app, objs_app0]; done) | (simp only [keeps_cons, keeps_none, objs_app0, objs_app, and_true]; first | rfl | exact ⟨rfl, rfl⟩ | exact ⟨rfl, rfl, rfl⟩))) | (refine both_ways ?_ ?_) | (rw [wrap_i64 (by omega) (by omega)]) | (refine guardV_split (fun h => ?_) (fun h => ?_) <;> (try rw [h]) <;> (try simp at h) <;> (try (exfalso; omega))) | (with_reducible refine awp_drawS (id := 4) [0, 1, 2, 3, 4, 5, 6, 7, 8, 9, 10, 11, 12, 13, 14, 15, 16, 17, 18, 19, 20, 21] (by kernel_rfl) ?_) | (refine nth_get hy ?_) | (refine nth_pred hy (by omega) ?_) | (refine Within_c ?_))
      · refine bool_endD hK ?_
        simp only [Bool.false_eq_true, false_iff]
        intro h; have := (h.1 i y hy).2 _ (by assumption) (get_pred hy (by assumption)); omega
      · refine later_intro ⟨i + 1, by omega, rfl, by omega, step (by assumption) (fun m h0 hm => by rw [get_pred hy h0] at hm; cases hm; omega), ?_, ?_⟩ <;> (try simp only [go_sem, t0, t3]) <;> rfl
      · refine later_intro ⟨i + 1, by omega, rfl, by omega, step (by assumption) (fun m h0 hm => by omega), ?_, ?_⟩ <;> (try simp only [go_sem, t0, t3]) <;> rfl
      · refine bool_endD hK ?_
        simp only [Bool.false_eq_true, false_iff]
        intro h; exact absurd (h.1 i y hy).1 (by assumption)
    · have hb : i = l.length := by simp at hb; omega
      subst hb
      repeat' (first | (simp -dsimp only [↓reduceIte, go_sem, t0, t3]) | (refine arr_intro fun _ => ?_) | (refine later_intro ⟨keeps_nil, ?_⟩) | (refine later_intro ⟨keeps_refl, ?_⟩) | (with_reducible refine keeps_go ?_ ?_; focus (first | (simp [keeps_cons, keeps_none, objs_app, objs_app0]; done) | (simp only [keeps_cons, keeps_none, objs_app0, objs_app, and_true]; first | rfl | exact ⟨rfl, rfl⟩ | exact ⟨rfl, rfl, rfl⟩))) | (with_reducible refine (And.intro (a := keeps _ _ _) ?_ ?_); focus (first | (simp [keeps_cons, keeps_none, objs_app, objs_app0]; done) | (simp only [keeps_cons, keeps_none, objs_app0, objs_app, and_true]; first | rfl | exact ⟨rfl, rfl⟩ | exact ⟨rfl, rfl, rfl⟩))) | (refine both_ways ?_ ?_) | (rw [wrap_i64 (by omega) (by omega)]) | (refine guardV_split (fun h => ?_) (fun h => ?_) <;> (try rw [h]) <;> (try simp at h) <;> (try (exfalso; omega))) | (refine Within_c ?_))
      refine bool_endD hK ?_
      simp only [decide_eq_true_eq]
      exact ⟨fun h => ⟨fun j n hn => hall j n (List.getElem?_eq_some_iff.1 hn).1 hn, h⟩, fun h => h.2⟩

theorem asks_c {a b c : Int} {σ : AST} {K : AV → AST → Prop} (hK : K (.bool (decide (In 1 512 a ∧ In 1 2 b ∧ In 0 7 c))) σ) : TCalls Try.prog 49 [.int .i64 a, .int .i64 b, .int .i64 c] σ K := by
  refine tcalls_walk Try.f49 _ [.tmp 6] Try.func49 rfl rfl rfl mixed (Nat.le_of_ble_eq_true rfl) rfl fun hlen => ?_
  repeat' (first | (simp -dsimp only [↓reduceIte, go_sem]) | (refine arr_intro fun _ => ?_) | (refine later_intro ⟨keeps_nil, ?_⟩) | (refine later_intro ⟨keeps_refl, ?_⟩) | (with_reducible refine keeps_go ?_ ?_; focus (first | (simp [keeps_cons, keeps_none, objs_app, objs_app0]; done) | (simp only [keeps_cons, keeps_none, objs_app0, objs_app, and_true]; first | rfl | exact ⟨rfl, rfl⟩ | exact ⟨rfl, rfl, rfl⟩))) | (with_reducible refine (And.intro (a := keeps _ _ _) ?_ ?_); focus (first | (simp [keeps_cons, keeps_none, objs_app, objs_app0]; done) | (simp only [keeps_cons, keeps_none, objs_app0, objs_app, and_true]; first | rfl | exact ⟨rfl, rfl⟩ | exact ⟨rfl, rfl, rfl⟩))) | (refine both_ways ?_ ?_) | (rw [wrap_i64 (by omega) (by omega)]) | (refine guardV_split (fun h => ?_) (fun h => ?_) <;> (try rw [h]) <;> (try simp at h) <;> (try (exfalso; omega))) | (refine Within_c ?_))
  all_goals exact bool_endD hK (by simp_all)
theorem refSameReply_c {a b : Rep} {ta tb : Tk} {σ : AST} {K : AV → AST → Prop} (hK : K (.bool (decide (a = b))) σ) : TCalls Try.prog 61 [repV ta a, repV tb b] σ K := by
  refine TCalls.drop ?_
  refine tcalls_walk Try.f61 _ [.tmp 4] Try.func61 rfl rfl rfl mixed (Nat.le_of_ble_eq_true rfl) rfl fun hlen => ?_
  repeat' (first | (simp -dsimp only [↓reduceIte, go_sem]) | (refine arr_intro fun _ => ?_) | (refine later_intro ⟨keeps_nil, ?_⟩) | (refine later_intro ⟨keeps_refl, ?_⟩) | (with_reducible refine keeps_go ?_ ?_; focus (first | (simp [keeps_cons, keeps_none, objs_app, objs_app0]; done) | (simp only [keeps_cons, keeps_none, objs_app0, objs_app, and_true]; first | rfl | exact ⟨rfl, rfl⟩ | exact ⟨rfl, rfl, rfl⟩))) | (with_reducible refine (And.intro (a := keeps _ _ _) ?_ ?_); focus (first | (simp [keeps_cons, keeps_none, objs_app, objs_app0]; done) | (simp only [keeps_cons, keeps_none, objs_app0, objs_app, and_true]; first | rfl | exact ⟨rfl, rfl⟩ | exact ⟨rfl, rfl, rfl⟩))) | (refine both_ways ?_ ?_) | (rw [wrap_i64 (by omega) (by omega)]) | (refine guardV_split (fun h => ?_) (fun h => ?_) <;> (try rw [h]) <;> (try simp at h) <;> (try (exfalso; omega))))
  · refine bool_endDX (Ext.app _ _) hK ?_
    simp only [Bool.false_eq_true, false_iff]; rintro rfl; omega
  · have hab : a.pending.length = b.pending.length := by omega
    have hx : Ext σ (σ.app [.cells (repV ta a), .cells (repV tb b)]) := Ext.app _ _
    refine awp_rounds (fun (i : Nat) τ s => s = σ.app [.cells (repV ta a), .cells (repV tb b)] ∧ i ≤ a.pending.length ∧ (∀ (j : Nat) x y, j < i → a.pending[j]? = some x → b.pending[j]? = some y → x = y) ∧ τ 2 = .ptr (some (σ.objs.length, [])) ∧ τ 3 = .ptr (some (σ.objs.length + 1, [])) ∧ τ 5 = .int .i64 i) (fun i => a.pending.length - i) 0 ?_ ?_
    · refine ⟨rfl, by omega, fun j x y h => by omega, ?_, ?_, ?_⟩ <;> (try simp only [go_sem]) <;> rfl
    · rintro i τ s ⟨rfl, hi, hall, t2, t3, t5⟩
      simp -dsimp only [↓reduceIte, go_sem, t2, t3, t5]
      refine arr_intro fun _ => ?_
      have hll : a.pending.length ≤ 9223372036854775807 := by simpa [maxL] using ‹a.pending.length ≤ maxL›
      simp -dsimp only [↓reduceIte, go_sem, t2, t3, t5]
      refine boolW_split (fun hb => ?_) (fun hb => ?_)
      · have hb : i < a.pending.length := by simp at hb; omega
        obtain ⟨x, hax⟩ := get_lt hb
        obtain ⟨y, hby⟩ := get_lt (l := b.pending) (i := i) (by omega)
        repeat' (first | (simp -dsimp only [↓reduceIte, go_sem, t2, t3, t5]) | (refine arr_intro fun _ => ?_) | (refine later_intro ⟨keeps_nil, ?_⟩) | (refine later_intro ⟨keeps_refl, ?_⟩) | (with_reducible refine keeps_go ?_ ?_; focus (first | (simp [keeps_cons, keeps_none, objs_app, objs_app0]; done) | (simp only [keeps_cons, keeps_none, objs_app0, objs_app, and_true]; first | rfl | exact ⟨rfl, rfl⟩ | exact ⟨rfl, rfl, rfl⟩))) | (with_reducible refine (And.intro (a := keeps _ _ _) ?_ ?_); focus (first | (simp [keeps_cons, keeps_none, objs_app, objs_app0]; done) | (simp only [keeps_cons, keeps_none, objs_app0, objs_app, and_true]; first | rfl | exact ⟨rfl, rfl⟩ | exact ⟨rfl, rfl, rfl⟩))) | (refine both_ways ?_ ?_) | (rw [wrap_i64 (by omega) (by omega)]) | (refine guardV_split (fun h => ?_) (fun h => ?_) <;> (try rw [h]) <;> (try simp at h) <;> (try (exfalso; omega))) | (with_reducible refine awp_drawS (id := 6) [0, 1, 2, 3, 4, 5, 6, 7, 8, 9, 10] (by kernel_rfl) ?_) | (refine nth_get hax ?_) | (refine nth_get hby ?_))
        · refine bool_endDX hx hK ?_
          simp only [Bool.false_eq_true, false_iff]; rintro rfl; rw [hax] at hby; cases hby; exact absurd rfl (by assumption)
        · refine later_intro ⟨i + 1, by omega, rfl, by omega, all_next hall hax hby (by assumption), ?_, ?_, ?_⟩ <;> (try simp only [go_sem, t2, t3, t5]) <;> rfl
      · have hb : i = a.pending.length := by simp at hb; omega
        subst hb
        have hp : a.pending = b.pending := ext_to hab hall
        repeat' (first | (simp -dsimp only [↓reduceIte, go_sem, t2, t3, t5]) | (refine arr_intro fun _ => ?_) | (refine later_intro ⟨keeps_nil, ?_⟩) | (refine later_intro ⟨keeps_refl, ?_⟩) | (with_reducible refine keeps_go ?_ ?_; focus (first | (simp [keeps_cons, keeps_none, objs_app, objs_app0]; done) | (simp only [keeps_cons, keeps_none, objs_app0, objs_app, and_true]; first | rfl | exact ⟨rfl, rfl⟩ | exact ⟨rfl, rfl, rfl⟩))) | (with_reducible refine (And.intro (a := keeps _ _ _) ?_ ?_); focus (first | (simp [keeps_cons, keeps_none, objs_app, objs_app0]; done) | (simp only [keeps_cons, keeps_none, objs_app0, objs_app, and_true]; first | rfl | exact ⟨rfl, rfl⟩ | exact ⟨rfl, rfl, rfl⟩))) | (refine both_ways ?_ ?_) | (rw [wrap_i64 (by omega) (by omega)]) | (refine guardV_split (fun h => ?_) (fun h => ?_) <;> (try rw [h]) <;> (try simp at h) <;> (try (exfalso; omega))))
        all_goals (first | exact hK | (exfalso; omega) | (refine bool_endD hK ?_; simp_all [Rep.iff] <;> fail) | (refine bool_endDX (Ext.app _ _) hK ?_; simp_all [Rep.iff] <;> fail) | (refine bool_endDX (Ext.refl _) hK ?_; simp_all [Rep.iff] <;> fail) | (refine bool_endDX hx hK ?_; simp_all [Rep.iff] <;> fail) | (refine bool_endD hK ?_; simp [Rep.iff]; omega) | (refine bool_endDX (Ext.app _ _) hK ?_; simp [Rep.iff]; omega) | (refine bool_endDX (Ext.refl _) hK ?_; simp [Rep.iff]; omega) | (refine bool_endDX hx hK ?_; simp [Rep.iff]; omega) | (refine bool_endD hK ?_; simp_all [Rep.iff]; omega) | (refine bool_endDX (Ext.app _ _) hK ?_; simp_all [Rep.iff]; omega) | (refine bool_endDX (Ext.refl _) hK ?_; simp_all [Rep.iff]; omega) | (refine bool_endDX hx hK ?_; simp_all [Rep.iff]; omega) | (refine bool_endD hK ?_; simp_all [Rep.iff] <;> omega) | (refine bool_endDX (Ext.app _ _) hK ?_; simp_all [Rep.iff] <;> omega) | (refine bool_endDX (Ext.refl _) hK ?_; simp_all [Rep.iff] <;> omega) | (refine bool_endDX hx hK ?_; simp_all [Rep.iff] <;> omega))
  all_goals
    refine bool_endDX (Ext.app _ _) hK ?_
    simp only [Bool.false_eq_true, false_iff]; rintro rfl; simp_all
theorem refSame_c {a b : Msg} {ta ua tb ub : Tk} {σ : AST} {K : AV → AST → Prop} (hK : K (.bool (decide (a = b))) σ) : TCalls Try.prog 47 [msgV ta ua a, msgV tb ub b] σ K := by
  refine TCalls.drop ?_
  refine tcalls_walk Try.f47 _ [.tmp 4] Try.func47 rfl rfl rfl mixed (Nat.le_of_ble_eq_true rfl) rfl fun hlen => ?_
  have hx : Ext σ (σ.app [.cells (msgV ta ua a), .cells (msgV tb ub b)]) := Ext.app _ _
  repeat' (first | (simp -dsimp only [↓reduceIte, go_sem]) | (refine arr_intro fun _ => ?_) | (refine later_intro ⟨keeps_nil, ?_⟩) | (refine later_intro ⟨keeps_refl, ?_⟩) | (with_reducible refine keeps_go ?_ ?_; focus (first | (simp [keeps_cons, keeps_none, objs_app, objs_app0]; done) | (simp only [keeps_cons, keeps_none, objs_app0, objs_app, and_true]; first | rfl | exact ⟨rfl, rfl⟩ | exact ⟨rfl, rfl, rfl⟩))) | (with_reducible refine (And.intro (a := keeps _ _ _) ?_ ?_); focus (first | (simp [keeps_cons, keeps_none, objs_app, objs_app0]; done) | (simp only [keeps_cons, keeps_none, objs_app0, objs_app, and_true]; first | rfl | exact ⟨rfl, rfl⟩ | exact ⟨rfl, rfl, rfl⟩))) | (refine both_ways ?_ ?_) | (rw [wrap_i64 (by omega) (by omega)]) | (refine guardV_split (fun h => ?_) (fun h => ?_) <;> (try rw [h]) <;> (try simp at h) <;> (try (exfalso; omega))) | (refine L01.ints_c ?_) | (refine refSameReply_c ?_))
  all_goals (refine bool_endDX hx hK ?_)
  all_goals (first | (simp_all [Msg.iff] <;> fail) | trace_state)
theorem refReply_c {x : Rep} {tk : Tk} {σ : AST} {K : AV → AST → Prop} (hK : K (.bool (decide x.Ok)) σ) : TCalls Try.prog 50 [repV tk x] σ K := by
  refine TCalls.drop ?_
  refine tcalls_walk Try.f50 _ [.tmp 2] Try.func50 rfl rfl rfl mixed (Nat.le_of_ble_eq_true rfl) rfl fun hlen => ?_
  repeat' (first | (simp -dsimp only [↓reduceIte, go_sem]) | (refine arr_intro fun _ => ?_) | (refine later_intro ⟨keeps_nil, ?_⟩) | (refine later_intro ⟨keeps_refl, ?_⟩) | (with_reducible refine keeps_go ?_ ?_; focus (first | (simp [keeps_cons, keeps_none, objs_app, objs_app0]; done) | (simp only [keeps_cons, keeps_none, objs_app0, objs_app, and_true]; first | rfl | exact ⟨rfl, rfl⟩ | exact ⟨rfl, rfl, rfl⟩))) | (with_reducible refine (And.intro (a := keeps _ _ _) ?_ ?_); focus (first | (simp [keeps_cons, keeps_none, objs_app, objs_app0]; done) | (simp only [keeps_cons, keeps_none, objs_app0, objs_app, and_true]; first | rfl | exact ⟨rfl, rfl⟩ | exact ⟨rfl, rfl, rfl⟩))) | (refine both_ways ?_ ?_) | (rw [wrap_i64 (by omega) (by omega)]) | (refine guardV_split (fun h => ?_) (fun h => ?_) <;> (try rw [h]) <;> (try simp at h) <;> (try (exfalso; omega))))
  have bad : ∀ s, Ext σ s → ¬ x.Ok → Ext σ s ∧ (AV.bool false).noRef = true ∧ K (AV.bool false).strip σ := fun s hx h => bool_endDX hx hK (by simpa using h)
  generalize hO : AObj.cells (repV tk x) = O
  refine awp_rounds (fun (i : Nat) τ s => Ext (σ.app [O]) s ∧ i ≤ x.pending.length ∧ (∀ (j : Nat) p, j < i → x.pending[j]? = some p → p.Ok) ∧ τ 1 = .ptr (some (σ.objs.length, [])) ∧ τ 3 = .int .i64 i) (fun i => x.pending.length - i) 0 ?_ ?_
  · refine ⟨Ext.refl _, by omega, fun j y h => by omega, ?_, ?_⟩ <;> (try simp only [go_sem]) <;> rfl
  · rintro i τ s ⟨hx, hi, hall, t1, t3⟩
    have hxx : Ext σ s := (Ext.app _ _).trans hx
    have hc : ∀ p, cellAt s σ.objs.length p = (repV tk x).at p := fun p => cell_ext0 hx (by rw [← hO]; rfl) p
    simp -dsimp only [↓reduceIte, go_sem, t1, t3, hc]
    refine arr_intro fun _ => ?_
    have hll : x.pending.length ≤ 9223372036854775807 := by simpa [maxL] using ‹x.pending.length ≤ maxL›
    simp -dsimp only [↓reduceIte, go_sem, t1, t3, hc]
    refine boolW_split (fun hb => ?_) (fun hb => ?_)
    · have hb : i < x.pending.length := by simp at hb; omega
      obtain ⟨y, hy, hm⟩ := get_of_lt hb
      repeat' (first | (simp -dsimp only [↓reduceIte, go_sem, t1, t3, hc]) | (refine arr_intro fun _ => ?_) | (refine later_intro ⟨keeps_nil, ?_⟩) | (refine later_intro ⟨keeps_refl, ?_⟩) | (with_reducible refine keeps_go ?_ ?_; focus (first | (simp [keeps_cons, keeps_none, objs_app, objs_app0]; done) | (simp only [keeps_cons, keeps_none, objs_app0, objs_app, and_true]; first | rfl | exact ⟨rfl, rfl⟩ | exact ⟨rfl, rfl, rfl⟩))) | (with_reducible refine (And.intro (a := keeps _ _ _) ?_ ?_); focus (first | (simp [keeps_cons, keeps_none, objs_app, objs_app0]; done) | (simp only [keeps_cons, keeps_none, objs_app0, objs_app, and_true]; first | rfl | exact ⟨rfl, rfl⟩ | exact ⟨rfl, rfl, rfl⟩))) | (refine both_ways ?_ ?_) | (rw [wrap_i64 (by omega) (by omega)]) | (refine guardV_split (fun h => ?_) (fun h => ?_) <;> (try rw [h]) <;> (try simp at h) <;> (try (exfalso; omega))) | (refine nth_get hy ?_) | (refine Within_c ?_) | (refine asks_c ?_))
      all_goals first
        | exact bad _ (hxx.trans (Ext.app _ _)) (fun h => by have := h.1 y hm; simp_all [Pend.Ok])
        | skip
      refine later_intro ⟨i + 1, by omega, hx.trans (Ext.app _ _), by omega, ?_, ?_, ?_⟩ <;> (try simp only [go_sem, t1, t3]) <;> (try rfl)
      intro j p hj hp
      by_cases hji : j < i
      · exact hall j p hji hp
      · obtain rfl : j = i := by omega
        rw [hy] at hp; cases hp; simp_all [Pend.Ok]
    · have hb : i = x.pending.length := by simp at hb; omega
      subst hb
      have ha : ∀ p ∈ x.pending, p.Ok := fun p hp => by
        obtain ⟨j, hj⟩ := List.mem_iff_getElem?.1 hp
        exact hall j p (List.getElem?_eq_some_iff.1 hj).1 hj
      clear hx hO
      have hx := hxx
      repeat' (first | (simp -dsimp only [↓reduceIte, go_sem, t1, t3, hc]) | (refine arr_intro fun _ => ?_) | (refine later_intro ⟨keeps_nil, ?_⟩) | (refine later_intro ⟨keeps_refl, ?_⟩) | (with_reducible refine keeps_go ?_ ?_; focus (first | (simp [keeps_cons, keeps_none, objs_app, objs_app0]; done) | (simp only [keeps_cons, keeps_none, objs_app0, objs_app, and_true]; first | rfl | exact ⟨rfl, rfl⟩ | exact ⟨rfl, rfl, rfl⟩))) | (with_reducible refine (And.intro (a := keeps _ _ _) ?_ ?_); focus (first | (simp [keeps_cons, keeps_none, objs_app, objs_app0]; done) | (simp only [keeps_cons, keeps_none, objs_app0, objs_app, and_true]; first | rfl | exact ⟨rfl, rfl⟩ | exact ⟨rfl, rfl, rfl⟩))) | (refine both_ways ?_ ?_) | (rw [wrap_i64 (by omega) (by omega)]) | (refine guardV_split (fun h => ?_) (fun h => ?_) <;> (try rw [h]) <;> (try simp at h) <;> (try (exfalso; omega))) | (refine Within_c ?_) | (refine refHist_c (by omega) (by omega) ?_))
      all_goals (first | exact hK | (exfalso; omega) | (refine bool_endD hK ?_; simp_all [Rep.Ok, view_last] <;> fail) | (refine bool_endDX (Ext.app _ _) hK ?_; simp_all [Rep.Ok, view_last] <;> fail) | (refine bool_endDX (Ext.refl _) hK ?_; simp_all [Rep.Ok, view_last] <;> fail) | (refine bool_endDX hx hK ?_; simp_all [Rep.Ok, view_last] <;> fail) | (refine bool_endD hK ?_; simp [Rep.Ok, view_last]; omega) | (refine bool_endDX (Ext.app _ _) hK ?_; simp [Rep.Ok, view_last]; omega) | (refine bool_endDX (Ext.refl _) hK ?_; simp [Rep.Ok, view_last]; omega) | (refine bool_endDX hx hK ?_; simp [Rep.Ok, view_last]; omega) | (refine bool_endD hK ?_; simp_all [Rep.Ok, view_last]; omega) | (refine bool_endDX (Ext.app _ _) hK ?_; simp_all [Rep.Ok, view_last]; omega) | (refine bool_endDX (Ext.refl _) hK ?_; simp_all [Rep.Ok, view_last]; omega) | (refine bool_endDX hx hK ?_; simp_all [Rep.Ok, view_last]; omega) | (refine bool_endD hK ?_; simp_all [Rep.Ok, view_last] <;> omega) | (refine bool_endDX (Ext.app _ _) hK ?_; simp_all [Rep.Ok, view_last] <;> omega) | (refine bool_endDX (Ext.refl _) hK ?_; simp_all [Rep.Ok, view_last] <;> omega) | (refine bool_endDX hx hK ?_; simp_all [Rep.Ok, view_last] <;> omega))
end Go.Aff.L10

/- Layer 10, walked: the reference's Right, whole. -/
namespace Go.Aff.L10
open Go.Proofs Go.Aff Go.Aff.L01 Classical
set_option linter.unusedVariables false
set_option linter.unusedSimpArgs false
set_option maxRecDepth 20000
attribute [local go_sem] push_app app_app length_app cellAt_app cellAt_app0 set_app set_app0 objs_app objs_app0 List.cons_append List.nil_append List.length_cons List.length_nil List.getElem?_cons_zero List.getElem?_cons_succ List.set_cons_zero List.set_cons_succ List.length_map
attribute [-go_sem] cellAt_new
attribute [-simp] List.length_flatMap
attribute [local go_sem] Try.underlying3 Try.underlying4 Try.underlying5 Try.underlying9 Try.underlying29 Try.underlying30 Try.underlying33 Try.underlying38 Try.underlying24 Try.underlying89 subPs_0 subAt_0 subSet_0 subPs_1 subAt_1 subSet_1 subPs_2 subAt_2 subSet_2 subPs_3 subAt_3 subSet_3 subPs_4 subAt_4 subSet_4 subPs_5 subAt_5 subSet_5 sizes_sub shapes_sub fits_sub zero_sub zt_sub built_sub Try.underlying32 pendPs_0 pendAt_0 pendSet_0 pendPs_1 pendAt_1 pendSet_1 pendPs_2 pendAt_2 pendSet_2 pendPs_3 pendAt_3 pendSet_3 pendPs_4 pendAt_4 pendSet_4 pendPs_5 pendAt_5 pendSet_5 sizes_pend shapes_pend fits_pend zero_pend zt_pend built_pend Try.underlying98 repPs_0 repAt_0 repSet_0 repPs_1 repAt_1 repSet_1 repPs_2 repAt_2 repSet_2 repPs_3 repAt_3 repSet_3 repPs_4 repAt_4 repSet_4 repPs_5 repAt_5 repSet_5 repPs_6 repAt_6 repSet_6 repPs_7 repAt_7 repSet_7 repPs_8 repAt_8 repSet_8 repPs_9 repAt_9 repSet_9 sizes_rep shapes_rep fits_rep zero_rep zt_rep built_rep Try.underlying35 blobPs_0 blobAt_0 blobSet_0 blobPs_1 blobAt_1 blobSet_1 blobPs_2 blobAt_2 blobSet_2 blobPs_3 blobAt_3 blobSet_3 sizes_blob shapes_blob fits_blob zero_blob zt_blob built_blob Try.underlying37 msgPs_0 msgAt_0 msgSet_0 msgPs_1 msgAt_1 msgSet_1 msgPs_2 msgAt_2 msgSet_2 msgPs_3 msgAt_3 msgSet_3 msgPs_4 msgAt_4 msgSet_4 msgPs_5 msgAt_5 msgSet_5 msgPs_6 msgAt_6 msgSet_6 msgPs_7 msgAt_7 msgSet_7 msgPs_8 msgAt_8 msgSet_8 msgPs_9 msgAt_9 msgSet_9 sizes_msg shapes_msg fits_msg zero_msg zt_msg built_msg Try.underlying40 at_Ps_0 at_Set_0 at_Ps_1 at_Set_1 sizes_at_ shapes_at_
attribute [local go_sem] fits3 fits4 fits5 fits9 fits23 fits26 fits31 fits34 fits52 zt3 zero3 zt34 zero34 zt23 zero23 bin_sub_eql bin_pend_eql bin_pend_neq bin_blob_eql bin_dig23_eql bin_dig23_neq slice23
attribute [local go_sem ↓] blockQ_exit2
attribute [local simp] dig_ext
theorem built23 : Built Try.prog 30 = True := eq_true (by unfold Built; rw [Try.underlying30]; decide +kernel)
theorem msgSet_9n {m : Msg} {t u v : Tk} : (msgPs t u m).set 9 (.slice v []) = msgPs t v { m with nums := [] } := rfl
attribute [local go_sem] bin_bool_ne appc appn built23 msgSet_9n

def Msg.bare (m : Msg) : Msg :=
  if m.kind = 1 then { m with sub := sub0 }
  else if m.kind = 2 then { m with rep := rep0 }
  else if m.kind = 3 then { m with view := [], tag := dig0 }
  else if m.kind = 4 ∨ m.kind = 6 then { m with blob := blob0 }
  else if m.kind = 5 ∨ m.kind = 7 ∨ m.kind = 8 then { m with nums := [] }
  else if m.kind = 10 then { m with by_ := 0, view := [], tag := dig0, own := dig0 }
  else if m.kind = 11 then { m with own := dig0 }
  else m
def Msg.head (m : Msg) : Msg := { msg0 with kind := m.kind, client := m.client }
theorem bare_c {m : Msg} (hw : -9223372036854775808 ≤ m.by_ ∧ m.by_ ≤ 9223372036854775807) {t u : Tk} {σ : AST} {K : AV → AST → Prop} (hK : ∀ t' u', K (msgV t' u' m.bare) σ) : TCalls Try.prog 48 [msgV t u m] σ K := by
  refine TCalls.drop ?_
  refine tcalls_walk Try.f48 _ [.cell 2 40] Try.func48 rfl rfl rfl mixed (Nat.le_of_ble_eq_true rfl) rfl fun hlen => ?_
  repeat' (first | (simp -dsimp only [↓reduceIte, go_sem]) | (refine arr_intro fun _ => ?_) | (refine later_intro ⟨keeps_nil, ?_⟩) | (refine later_intro ⟨keeps_refl, ?_⟩) | (with_reducible refine keeps_go ?_ ?_; focus (first | (simp [keeps_cons, keeps_none, objs_app, objs_app0]; done) | (simp only [keeps_cons, keeps_none, objs_app0, objs_app, and_true]; first | rfl | exact ⟨rfl, rfl⟩ | exact ⟨rfl, rfl, rfl⟩))) | (with_reducible refine (And.intro (a := keeps _ _ _) ?_ ?_); focus (first | (simp [keeps_cons, keeps_none, objs_app, objs_app0]; done) | (simp only [keeps_cons, keeps_none, objs_app0, objs_app, and_true]; first | rfl | exact ⟨rfl, rfl⟩ | exact ⟨rfl, rfl, rfl⟩))) | (refine both_ways ?_ ?_) | (rw [wrap_i64 (by omega) (by omega)]) | (refine guardV_split (fun h => ?_) (fun h => ?_) <;> (try rw [h]) <;> (try simp at h) <;> (try (exfalso; omega))))
  all_goals
    refine ⟨Ext.app _ _, ?_, ?_⟩
    · simp [AV.noRef, AV.noRefs, msgPs, repPs, subPs, blobPs, noRefs_pends, noRefs_ints, msg0, rep0, sub0, blob0]
    · simp only [AV.strip, AV.strips, msg_strips]
      have key : ∀ {x : Msg} {t' u' : Tk}, x = m.bare → K (msgV t' u' x) σ := fun {x t' u'} h1 => by rw [h1]; exact hK t' u'
      refine key ?_
      simp_all [Msg.bare]
def Msg.Fields2 (m : Msg) : Prop :=
  if m.kind = 1 then (In 1 512 m.sub.num ∧ In 1 2 m.sub.kind ∧ In 0 7 m.sub.target) ∧ m.sub.value.length ≤ 256
  else if m.kind = 2 then m.client = 0 ∧ m.rep.Ok
  else if m.kind = 3 then m.view ≠ [] ∧ ViewOk 8 m.view
  else if m.kind = 4 ∨ m.kind = 6 then m.client = 0 ∧ In 0 7 m.blob.owner ∧ In 0 1099511627776 m.blob.num ∧ m.blob.cipher.length ≤ 4096
  else if m.kind = 5 ∨ m.kind = 7 ∨ m.kind = 8 then NumsOk m.nums
  else if m.kind = 10 then In 0 7 m.by_ ∧ m.view ≠ [] ∧ ViewOk 8 m.view
  else True
theorem Msg.ok_iff {m : Msg} : m.Ok ↔ In 1 11 m.kind ∧ In 0 7 m.client ∧ m.bare = m.head ∧ m.Fields2 := by
  unfold Msg.Ok
  by_cases k : m.kind = 1 ∨ m.kind = 2 ∨ m.kind = 3 ∨ m.kind = 4 ∨ m.kind = 5 ∨ m.kind = 6 ∨ m.kind = 7 ∨ m.kind = 8 ∨ m.kind = 9 ∨ m.kind = 10 ∨ m.kind = 11
  · rcases k with k | k | k | k | k | k | k | k | k | k | k
    all_goals
      simp only [Msg.FieldsOk, Msg.own_, Msg.bare, Msg.head, Msg.Fields2, k, Msg.iff, Sub.Ok, Blob.Ok]
      have hin : In 1 11 m.kind := by rw [k]; simp [In]
      rw [k] at hin
      simp [msg0, hin]
      try grind
  · have h1 : ¬ m.FieldsOk := by
      unfold Msg.FieldsOk
      simp_all
    have h2 : ¬ In 1 11 m.kind := by unfold In; omega
    simp [h1, h2]
theorem refRight_c {m : Msg} (hw : -9223372036854775808 ≤ m.by_ ∧ m.by_ ≤ 9223372036854775807) {t u : Tk} {σ : AST} {K : AV → AST → Prop} (hK : K (.bool (decide m.Ok)) σ) : TCalls Try.prog 34 [msgV t u m] σ K := by
  refine TCalls.drop ?_
  refine tcalls_walk Try.f34 _ [.tmp 2] Try.func34 rfl rfl rfl mixed (Nat.le_of_ble_eq_true rfl) rfl fun hlen => ?_
  repeat' (first | (simp -dsimp only [↓reduceIte, go_sem]) | (refine arr_intro fun _ => ?_) | (refine later_intro ⟨keeps_nil, ?_⟩) | (refine later_intro ⟨keeps_refl, ?_⟩) | (with_reducible refine keeps_go ?_ ?_; focus (first | (simp [keeps_cons, keeps_none, objs_app, objs_app0]; done) | (simp only [keeps_cons, keeps_none, objs_app0, objs_app, and_true]; first | rfl | exact ⟨rfl, rfl⟩ | exact ⟨rfl, rfl, rfl⟩))) | (with_reducible refine (And.intro (a := keeps _ _ _) ?_ ?_); focus (first | (simp [keeps_cons, keeps_none, objs_app, objs_app0]; done) | (simp only [keeps_cons, keeps_none, objs_app0, objs_app, and_true]; first | rfl | exact ⟨rfl, rfl⟩ | exact ⟨rfl, rfl, rfl⟩))) | (refine both_ways ?_ ?_) | (rw [wrap_i64 (by omega) (by omega)]) | (refine guardV_split (fun h => ?_) (fun h => ?_) <;> (try rw [h]) <;> (try simp at h) <;> (try (exfalso; omega))) | (with_reducible refine awp_drawS (id := 1) [0, 1, 2, 3, 4, 5, 6, 7, 8, 9, 10, 11, 13, 14, 15, 16, 17, 12, 18, 19, 20] (by kernel_rfl) ?_) | (refine Within_c ?_) | (refine bare_c hw fun t' u' => ?_) | (refine refSame_c (b := m.head) ?_) | (refine asks_c ?_) | (refine refReply_c ?_) | (refine refHist_c (by omega) (by omega) ?_) | (refine refNums_c ?_))
  all_goals refine bool_endDX (Ext.app _ _) hK ?_
  all_goals rw [Msg.ok_iff]
  all_goals first | (simp_all [Msg.Fields2, -not_and] <;> fail) | (simp_all [Msg.Fields2]; omega) | (simp_all [Msg.Fields2] <;> grind)
end Go.Aff.L10

