import Derived.Test.YtpafajjginndcaaG21
import Derived.Test.YtpafajjginndcaaG16

/- Layer 21, walked: the first laws. -/
namespace Go.Aff.L21
open Go.Proofs Go.Aff Go.Aff.L01 Classical
set_option linter.unusedVariables false
set_option linter.unusedSimpArgs false
attribute [local go_sem] push_app app_app length_app cellAt_app cellAt_app0 set_app set_app0 objs_app objs_app0 List.cons_append List.nil_append List.length_cons List.length_nil List.getElem?_cons_zero List.getElem?_cons_succ List.set_cons_zero List.set_cons_succ
attribute [-go_sem] cellAt_new
attribute [local go_sem] Try.underlying3 fits4 Try.underlying4 fits5 Try.underlying5 Try.underlying9 fits22 Try.underlying22 fits23 Try.underlying23 fits29 Try.underlying29 fits43 Try.underlying43 fits44 Try.underlying44 fits46 p46_0 p46_1 p46_2 p46_3 p46_4 p46_5 Try.underlying46 fits64 p64_0 p64_1 Try.underlying64
attribute [local go_sem] fits3 fits9
attribute [local go_sem ↓] blockQ_exit2
attribute [local go_sem] List.length_map
attribute [-simp] List.length_flatMap
attribute [local go_sem] zt46 zero46 size_leaf agg_leaf shape_leafV known_leaf rootV tup3

def Light (l : List Leaf) : Prop := l.length ≤ 60 ∧ ∀ x ∈ l, x.blocks.length ≤ 40 ∧ x.names.length ≤ 60 ∧ x.nodes.length ≤ 60
theorem light_c {l : List TLeaf} {tk : Tk} {σ : AST} {K : AV → AST → Prop} (hK : K (.bool (decide (Light (l.map (·.x))))) σ) : TCalls Try.prog 8 [.slice tk (l.map leafV)] σ K := by
  refine tcalls_walk Try.f8 _ [.tmp 2] Try.func8 rfl rfl rfl mixed (Nat.le_of_ble_eq_true rfl) rfl fun hlen => ?_
  have bad : ¬ Light (l.map (·.x)) → K (AV.bool false) σ := fun h => by
    rw [decide_eq_false h] at hK; exact hK
  repeat' (first | (simp -dsimp only [↓reduceIte, go_sem]) | (refine arr_intro fun _ => ?_) | (refine later_intro ⟨keeps_nil, ?_⟩) | (refine later_intro ⟨keeps_refl, ?_⟩) | (refine both_ways ?_ ?_) | (rw [wrap_i64 (by omega) (by omega)]) | (refine guardV_split (fun h => ?_) (fun h => ?_) <;> (try rw [h]) <;> (try simp at h) <;> (try (exfalso; omega))))
  · exact bad fun h => by have := h.1; rw [List.length_map] at this; omega
  · refine awp_rounds (fun (i : Nat) τ s => s = σ ∧ i ≤ l.length ∧ (∀ (j : Nat) y, j < i → l[j]? = some y → y.x.blocks.length ≤ 40 ∧ y.x.names.length ≤ 60 ∧ y.x.nodes.length ≤ 60) ∧ τ 0 = .slice tk (l.map leafV) ∧ τ 3 = .int .i64 i) (fun i => l.length - i) 0 ?_ ?_
    · refine ⟨rfl, by omega, fun j y h => by omega, ?_, ?_⟩ <;> (try simp only [go_sem]) <;> rfl
    · rintro i τ s ⟨rfl, hi, hall, t0, t3⟩
      simp -dsimp only [↓reduceIte, go_sem, t0, t3]
      refine arr_intro fun _ => ?_
      simp -dsimp only [↓reduceIte, go_sem, t0, t3]
      refine boolW_split (fun hb => ?_) (fun hb => ?_)
      · have hb : i < l.length := by simp at hb; omega
        obtain ⟨y, hy⟩ := get_lt hb
        have no : ¬ (y.x.blocks.length ≤ 40 ∧ y.x.names.length ≤ 60 ∧ y.x.nodes.length ≤ 60) → ¬ Light (l.map (·.x)) := fun h hl => h (hl.2 y.x (List.mem_map.2 ⟨y, List.mem_of_getElem? hy, rfl⟩))
        repeat' (first | (simp -dsimp only [↓reduceIte, go_sem, t0, t3, leafV]) | (refine arr_intro fun _ => ?_) | (refine later_intro ⟨keeps_nil, ?_⟩) | (refine later_intro ⟨keeps_refl, ?_⟩) | (refine both_ways ?_ ?_) | (rw [wrap_i64 (by omega) (by omega)]) | (refine guardV_split (fun h => ?_) (fun h => ?_) <;> (try rw [h]) <;> (try simp at h) <;> (try (exfalso; omega))) | (refine nth_get hy ?_))
        all_goals first
          | exact bad (no (by omega))
          | skip
        refine later_intro ⟨i + 1, by omega, rfl, by omega, ?_, ?_, ?_⟩ <;> (try simp only [go_sem, t0, t3]) <;> (try rfl)
        intro j z hj hz
        by_cases hji : j < i
        · exact hall j z hji hz
        · obtain rfl : j = i := by omega
          rw [hy] at hz; cases hz; omega
      · have hb : i = l.length := by simp at hb; omega
        repeat' (first | (simp -dsimp only [↓reduceIte, go_sem, t0, t3]) | (refine arr_intro fun _ => ?_) | (refine later_intro ⟨keeps_nil, ?_⟩) | (refine later_intro ⟨keeps_refl, ?_⟩) | (refine both_ways ?_ ?_) | (rw [wrap_i64 (by omega) (by omega)]) | (refine guardV_split (fun h => ?_) (fun h => ?_) <;> (try rw [h]) <;> (try simp at h) <;> (try (exfalso; omega))))
        rw [decide_eq_true] at hK
        · exact hK
        · refine ⟨by simp; omega, fun x hx => ?_⟩
          obtain ⟨y, hy, rfl⟩ := List.mem_map.1 hx
          obtain ⟨j, hj⟩ := List.mem_iff_getElem?.1 hy
          exact hall j y (by have := (List.getElem?_eq_some_iff.1 hj).1; omega) hj

theorem lay_c {l : List TLeaf} {tk : Tk} {σ : AST} {K : AV → AST → Prop} (hT : Table (l.map (·.x))) (hL : Light (l.map (·.x))) (hK : K (.str ((l.map (·.x)).flatMap leafS)) σ) : TCalls Try.prog 11 [.slice tk (l.map leafV)] σ K := by
  refine TCalls.drop ?_
  have h32 := table_len hT
  have hR : ∀ y ∈ l, y.x.Right := fun y hy => by
    obtain ⟨i, hi⟩ := List.mem_iff_getElem?.1 hy
    exact (hT i y.x (tableAt hi)).1
  have hLL : ∀ y ∈ l, y.x.blocks.length ≤ 40 ∧ y.x.names.length ≤ 60 ∧ y.x.nodes.length ≤ 60 := fun y hy => hL.2 y.x (List.mem_map.2 ⟨y, hy, rfl⟩)
  have hS : ∀ y ∈ l, leafS y.x = leafG y.x := fun y hy => by
    have h1 := hLL y hy
    have h2 := (hR y hy).ints.2.2.2
    have a1 : numsB y.x.blocks = laidAll numS y.x.blocks := by unfold numsB; rw [if_neg (by omega)]
    have a2 : numsB y.x.nodes = laidAll numS y.x.nodes := by unfold numsB; rw [if_neg (by omega)]
    have a3 : textsB y.x.names = laidAll textS y.x.names := by
      unfold textsB; rw [if_neg]
      rintro (h | ⟨s, hs, h⟩)
      · omega
      · have := h2 s hs; omega
    rw [leafS, leafG, a1, a2, a3]
  have hN : ∀ i, ((l.take i).flatMap fun y => leafS y.x).length ≤ l.length * 40000 := fun i => flatN fun y hy => by rw [hS y hy]; exact leafG_len (hR y hy)
  rw [List.length_map] at h32
  refine tcalls_walk Try.f11 _ [.tmp 2] Try.func11 rfl rfl rfl mixed (Nat.le_of_ble_eq_true rfl) rfl fun hlen => ?_
  simp -dsimp only [↓reduceIte, go_sem]
  refine awp_rounds (fun (i : Nat) τ s => Ext σ s ∧ i ≤ l.length ∧ τ 0 = .slice tk (l.map leafV) ∧ τ 3 = .str ((l.take i).flatMap fun y => leafS y.x) ∧ τ 4 = .int .i64 i) (fun i => l.length - i) 0 ?_ ?_
  · refine ⟨Ext.refl _, by omega, ?_, ?_, ?_⟩ <;> (try simp only [go_sem]) <;> rfl
  · rintro i τ s ⟨hx, hi, t0, t3, t4⟩
    simp -dsimp only [↓reduceIte, go_sem, t0, t3, t4]
    refine arr_intro fun _ => ?_
    simp -dsimp only [↓reduceIte, go_sem, t0, t3, t4]
    refine boolW_split (fun hb => ?_) (fun hb => ?_)
    · have hb : i < l.length := by simp at hb; omega
      obtain ⟨y, hy⟩ := get_lt hb
      have hm := List.mem_of_getElem? hy
      obtain ⟨hi1, hi2, hi3, hi4⟩ := (hR y hm).ints
      obtain ⟨hb1, hb2, hb3⟩ := hLL y hm
      have hNi := hN i
      have e : (l.take (i + 1)).flatMap (fun y => leafS y.x) = (l.take i).flatMap (fun y => leafS y.x) ++ leafS y.x := flat_take hy
      have hG := leafG_len (hR y hm)
      rw [← hS y hm] at hG
      simp only [leafS, laidAll, part_all, List.length_append, List.length_cons, List.length_nil] at hG
      repeat' (first | (simp -dsimp only [↓reduceIte, go_sem, t0, t3, t4, leafV]) | (refine arr_intro fun _ => ?_) | (refine later_intro ⟨keeps_nil, ?_⟩) | (refine later_intro ⟨keeps_refl, ?_⟩) | (refine both_ways ?_ ?_) | (rw [wrap_i64 (by omega) (by omega)]) | (refine guardV_split (fun h => ?_) (fun h => ?_) <;> (try rw [h]) <;> (try simp at h) <;> (try (exfalso; omega))) | (refine nth_get hy ?_) | (refine awp_drawS (id := 6) [0, 1, 2, 3, 4, 5, 6, 7, 11, 12, 16, 17, 21, 22, 8, 9, 10, 13, 14, 15, 18, 19, 20, 23, 24, 25, 26] (by kernel_rfl) ?_) | (refine build_slice E44 rfl (by decide) (by intro v hv; simp at hv; rcases hv with rfl | rfl | rfl <;> exact ⟨by simp only [go_sem], rfl⟩) ?_) | (refine Ints_c (l := [y.x.num, y.x.kind, y.x.size]) hi3 (by simp) ?_) | (refine Ints_c hi1 (by omega) ?_) | (refine Ints_c hi2 (by omega) ?_) | (refine Texts_c (fun s hs => Nat.le_trans (hi4 s hs) (by omega)) (by omega) ?_) | (refine side_later (by simp only [maxL, laidAll, part_all, List.length_append, List.length_cons, List.length_nil]; omega) ?_))
      refine later_intro ⟨i + 1, by omega, hx.trans (Ext.app _ _), by omega, ?_, ?_, ?_⟩ <;> (try simp only [go_sem, t0, t3, t4]) <;> (try rfl)
      rw [e]
      simp [leafS, laidAll, part_all]
    · have hb : i = l.length := by simp at hb; omega
      rw [hb, List.take_length] at t3
      have em : (l.map (·.x)).flatMap leafS = l.flatMap fun y => leafS y.x := by simp [List.flatMap_map]
      rw [em] at hK
      repeat' (first | (simp -dsimp only [↓reduceIte, go_sem, t0, t3, t4]) | (refine arr_intro fun _ => ?_) | (refine later_intro ⟨keeps_nil, ?_⟩) | (refine later_intro ⟨keeps_refl, ?_⟩) | (refine both_ways ?_ ?_) | (rw [wrap_i64 (by omega) (by omega)]) | (refine guardV_split (fun h => ?_) (fun h => ?_) <;> (try rw [h]) <;> (try simp at h) <;> (try (exfalso; omega))))
      exact ⟨hx, rfl, hK⟩
end Go.Aff.L21

/- Layer 21, walked: the laws of laying, cutting, roots. -/
namespace Go.Aff.L21
open Go.Proofs Go.Aff Go.Aff.L01 Classical
set_option linter.unusedVariables false
set_option linter.unusedSimpArgs false
attribute [local go_sem] push_app app_app length_app cellAt_app cellAt_app0 set_app set_app0 objs_app objs_app0 List.cons_append List.nil_append List.length_cons List.length_nil List.getElem?_cons_zero List.getElem?_cons_succ List.set_cons_zero List.set_cons_succ
attribute [-go_sem] cellAt_new
attribute [local go_sem] Try.underlying3 fits4 Try.underlying4 fits5 Try.underlying5 Try.underlying9 fits22 Try.underlying22 fits23 Try.underlying23 fits29 Try.underlying29 fits43 Try.underlying43 fits44 Try.underlying44 fits46 p46_0 p46_1 p46_2 p46_3 p46_4 p46_5 Try.underlying46 fits64 p64_0 p64_1 Try.underlying64
attribute [local go_sem] fits3 fits9
attribute [local go_sem ↓] blockQ_exit2
attribute [local go_sem] List.length_map
attribute [-simp] List.length_flatMap
attribute [local go_sem] zt46 zero46 size_leaf agg_leaf shape_leafV known_leaf rootV tup3

theorem joinV_cut {d : List UInt8} (h : d.length ≤ 512) : joinV (d.length : Int) (cut d) = (d, 0) := by
  have : joinR (d.length : Int) (cut d) := ⟨by omega, by omega, by rw [cut_len]; omega, by rw [Int.toNat_natCast]; exact cut_join⟩
  rw [joinV, if_pos this, cut_flat]
theorem joinV_big {d : List UInt8} {l : List (List UInt8)} (h : 512 < d.length) : joinV (d.length : Int) l = ([], 6) := by
  rw [joinV, if_neg]; intro h; have := h.2.1; omega
theorem E22 : ElemT Try.prog 22 46 6 96 := ⟨rfl, by kernel_rfl, by kernel_rfl, ⟨_, zeroOf46⟩, by decide⟩
theorem built46' : Built Try.prog 46 = True := by simp [built46]
attribute [local go_sem] built46'
theorem table_one : Table [⟨1, 1, 0, [], [], []⟩] := by
  intro i x hx
  cases i with
  | zero =>
    simp only [List.getElem?_cons_zero, Option.some.injEq] at hx
    subst hx
    refine ⟨⟨by decide, by decide, .inr ⟨rfl, fun i s h => by simp at h, fun n hn => by simp at hn, rfl, rfl, rfl⟩⟩, fun y h0 => by omega⟩
  | succ i => simp at hx
theorem numS_1 : numS 1 = [49, 59] := by simp [numS, dg_small]
theorem numS_0 : numS 0 = [48, 59] := by simp [numS, dg_small]
theorem putG_one : putG [⟨1, 1, 0, [], [], []⟩] = ([49, 59, 49, 59, 48, 59, 40, 41, 40, 41, 40, 41], 0) := by
  have e : [(⟨1, 1, 0, [], [], []⟩ : Leaf)].flatMap leafG = [49, 59, 49, 59, 48, 59, 40, 41, 40, 41, 40, 41] := by
    simp [leafG, numsB, textsB, laidAll, L01.part, numS_1, numS_0]
  rw [putG, if_pos table_one, e]; rfl
theorem rootR_num {n : Int} (h0 : -9223372036854775808 ≤ n) (h1 : n ≤ 9223372036854775807) : rootR (numS n) = if 0 ≤ n ∧ n ≤ 1099511627776 then (n, true, 0) else (0, false, 6) := by
  have hb := num_back (x := []) (y := []) h0 h1
  simp only [List.nil_append, List.append_nil, List.length_nil, Nat.zero_add] at hb
  have hr : numR (numS n) 0 = (n, ((numS n).length : Int), 0) := by
    rw [numR, if_neg (by omega)]; exact hb
  have hne : numS n ≠ [] := by
    intro h
    rw [numR, if_neg (by omega), h] at hr
    have := congrArg (fun x : Int × Int × Int => x.2.2) hr
    simp only [List.length_nil] at this
    exact absurd this (by decide +kernel)
  rw [rootR, if_neg hne, hr]
  simp only [ne_eq, not_true_eq_false, if_false]
  by_cases h : 0 ≤ n ∧ n ≤ 1099511627776
  · rw [if_pos h, if_neg (by omega)]
  · rw [if_neg h, if_pos (by omega)]

theorem awake_c {σ : AST} {K : AV → AST → Prop} (hK : K (.bool true) σ) : TCalls Try.prog 9 [] σ K := by
  refine tcalls_walk Try.f9 _ [.tmp 0] Try.func9 rfl rfl rfl mixed (Nat.le_of_ble_eq_true rfl) rfl fun hlen => ?_
  simp -dsimp only [↓reduceIte, go_sem]
  refine cut_c (by decide) ?_
  obtain ⟨tkc, hc⟩ := slS_tk (f := AV.str) (l := cut [48, 49, 50, 51, 52, 53, 54, 55, 56, 57, 48, 49, 50, 51, 52, 53, 54, 55, 56, 57, 48, 49, 50, 51, 52, 53, 54, 55, 56, 57, 48, 49, 50, 51, 52, 53, 54, 55, 56, 57])
  rw [hc]
  simp -dsimp only [↓reduceIte, go_sem]
  refine join_c (by decide) (by decide) ?_
  have hj := joinV_cut (d := [48, 49, 50, 51, 52, 53, 54, 55, 56, 57, 48, 49, 50, 51, 52, 53, 54, 55, 56, 57, 48, 49, 50, 51, 52, 53, 54, 55, 56, 57, 48, 49, 50, 51, 52, 53, 54, 55, 56, 57]) (by decide)
  simp only [List.length_cons, List.length_nil] at hj
  rw [show ((0 + 1 + 1 + 1 + 1 + 1 + 1 + 1 + 1 + 1 + 1 + 1 + 1 + 1 + 1 + 1 + 1 + 1 + 1 + 1 + 1 + 1 + 1 + 1 + 1 + 1 + 1 + 1 + 1 + 1 + 1 + 1 + 1 + 1 + 1 + 1 + 1 + 1 + 1 + 1 + 1 : Nat) : Int) = 40 by decide] at hj
  rw [hj]
  have ec : cut [48, 49, 50, 51, 52, 53, 54, 55, 56, 57, 48, 49, 50, 51, 52, 53, 54, 55, 56, 57, 48, 49, 50, 51, 52, 53, 54, 55, 56, 57, 48, 49, 50, 51, 52, 53, 54, 55, 56, 57] = [[48, 49, 50, 51, 52, 53, 54, 55, 56, 57, 48, 49, 50, 51, 52, 53, 54, 55, 56, 57, 48, 49, 50, 51, 52, 53, 54, 55, 56, 57, 48, 49], [50, 51, 52, 53, 54, 55, 56, 57]] := by decide +kernel
  rw [ec]
  repeat' (first | (simp -dsimp only [↓reduceIte, go_sem]) | (refine arr_intro fun _ => ?_) | (refine later_intro ⟨keeps_nil, ?_⟩) | (refine later_intro ⟨keeps_refl, ?_⟩) | (refine both_ways ?_ ?_) | (rw [wrap_i64 (by omega) (by omega)]) | (refine guardV_split (fun h => ?_) (fun h => ?_) <;> (try rw [h]) <;> (try simp at h) <;> (try (exfalso; omega))) | (refine root_c (by decide) (by decide) ?_))
  refine readRoot_c ?_
  rw [rootR_num (by decide) (by decide), if_pos (by decide)]
  repeat' (first | (simp -dsimp only [↓reduceIte, go_sem]) | (refine arr_intro fun _ => ?_) | (refine later_intro ⟨keeps_nil, ?_⟩) | (refine later_intro ⟨keeps_refl, ?_⟩) | (refine both_ways ?_ ?_) | (rw [wrap_i64 (by omega) (by omega)]) | (refine guardV_split (fun h => ?_) (fun h => ?_) <;> (try rw [h]) <;> (try simp at h) <;> (try (exfalso; omega))) | (refine build_slice E22 rfl (by decide) (by intro v hv; simp at hv; rcases hv with rfl; exact ⟨by simp only [go_sem], rfl⟩) ?_))
  refine put_c (l := [⟨⟨1, 1, 0, [], [], []⟩, .full, .full, .full⟩]) ?_
  simp only [List.map_cons, List.map_nil, putG_one]
  repeat' (first | (simp -dsimp only [↓reduceIte, go_sem]) | (refine arr_intro fun _ => ?_) | (refine later_intro ⟨keeps_nil, ?_⟩) | (refine later_intro ⟨keeps_refl, ?_⟩) | (refine both_ways ?_ ?_) | (rw [wrap_i64 (by omega) (by omega)]) | (refine guardV_split (fun h => ?_) (fun h => ?_) <;> (try rw [h]) <;> (try simp at h) <;> (try (exfalso; omega))))
  refine nth_get (i := 1) rfl ?_
  repeat' (first | (simp -dsimp only [↓reduceIte, go_sem]) | (refine arr_intro fun _ => ?_) | (refine later_intro ⟨keeps_nil, ?_⟩) | (refine later_intro ⟨keeps_refl, ?_⟩) | (refine both_ways ?_ ?_) | (rw [wrap_i64 (by omega) (by omega)]) | (refine guardV_split (fun h => ?_) (fun h => ?_) <;> (try rw [h]) <;> (try simp at h) <;> (try (exfalso; omega))))
  exact hK

theorem putG_err {l : List Leaf} : (putG l).2 = 2 ∨ (putG l).2 = 4 ∨ (putG l).2 = 0 := by
  unfold putG; split
  · split <;> simp
  · simp
theorem flatG {l : List Leaf} (hT : Table l) (hL : Light l) : l.flatMap leafS = l.flatMap leafG := by
  have hR : ∀ y ∈ l, y.Right := fun y hy => by
    obtain ⟨i, hi⟩ := List.mem_iff_getElem?.1 hy
    exact (hT i y hi).1
  have : ∀ x ∈ l, leafS x = leafG x := fun y hy => by
    have h1 := hL.2 y hy
    have h2 := (hR y hy).ints.2.2.2
    have a1 : numsB y.blocks = laidAll numS y.blocks := by unfold numsB; rw [if_neg (by omega)]
    have a2 : numsB y.nodes = laidAll numS y.nodes := by unfold numsB; rw [if_neg (by omega)]
    have a3 : textsB y.names = laidAll textS y.names := by
      unfold textsB; rw [if_neg]
      rintro (h | ⟨s, hs, h⟩)
      · omega
      · have := h2 s hs; omega
    rw [leafS, leafG, a1, a2, a3]
  have key : ∀ m : List Leaf, (∀ x ∈ m, leafS x = leafG x) → m.flatMap leafS = m.flatMap leafG := fun m => by
    induction m with
    | nil => intro _; rfl
    | cons x r ih => intro h; rw [List.flatMap_cons, List.flatMap_cons, h x (by simp), ih fun y hy => h y (by simp [hy])]
  exact key l this
theorem putG_light {l : List Leaf} (hL : Light l) : (¬ Table l → putG l = ([], 2)) ∧ (Table l → 4096 < ((l.flatMap leafS).length : Int) → putG l = ([], 4)) ∧ (Table l → ((l.flatMap leafS).length : Int) ≤ 4096 → putG l = (l.flatMap leafS, 0)) := by
  unfold putG
  refine ⟨fun h => by rw [if_neg h], fun h h2 => ?_, fun h h2 => ?_⟩
  · rw [if_pos h, ← flatG h hL, if_pos (by omega)]
  · rw [if_pos h, ← flatG h hL, if_neg (by omega)]
theorem imagePuts_c {l : List TLeaf} {tk : Tk} {σ : AST} {K : AV → AST → Prop} (hK : K (.bool true) σ) : TCalls Try.prog 3 [.slice tk (l.map leafV)] σ K := by
  refine tcalls_walk Try.f3 _ [.tmp 2] Try.func3 rfl rfl rfl mixed (Nat.le_of_ble_eq_true rfl) rfl fun hlen => ?_
  have h3 := putG_err (l := l.map (·.x))
  repeat' (first | (simp -dsimp only [↓reduceIte, go_sem]) | (refine arr_intro fun _ => ?_) | (refine later_intro ⟨keeps_nil, ?_⟩) | (refine later_intro ⟨keeps_refl, ?_⟩) | (refine both_ways ?_ ?_) | (rw [wrap_i64 (by omega) (by omega)]) | (refine guardV_split (fun h => ?_) (fun h => ?_) <;> (try rw [h]) <;> (try simp at h) <;> (try (exfalso; omega))) | (refine put_c ?_) | (refine light_c ?_) | (refine Table_c ?_) | (refine lay_c ‹_› ‹_› ?_) | (refine awake_c ?_))
  all_goals first
    | exact hK
    | (have hL : Light (l.map (·.x)) := by assumption
       obtain ⟨p1, p2, p3⟩ := putG_light hL; simp_all; done)
    | (rcases h3 with h3 | h3 | h3 <;> simp_all; done)
    | trace_state

theorem imageRoots_c {n : Int} {s : List UInt8} (h0 : -9223372036854775808 ≤ n) (h1 : n ≤ 9223372036854775807) {σ : AST} {K : AV → AST → Prop} (hK : K (.bool true) σ) : TCalls Try.prog 5 [.int .i64 n, .str s] σ K := by
  refine tcalls_walk Try.f5 _ [.tmp 4] Try.func5 rfl rfl rfl mixed (Nat.le_of_ble_eq_true rfl) rfl fun hlen => ?_
  have r1 : s = [] → rootR s = (0, false, 0) := fun h => by rw [rootR, if_pos h]
  have r2 : ¬ s = [] → ¬ (numR s 0).2.2 = 0 → rootR s = (0, false, (numR s 0).2.2) := fun h h2 => by rw [rootR, if_neg h, if_pos h2]
  have r3 : ¬ s = [] → (numR s 0).2.2 = 0 → (numR s 0).2.1 < s.length → rootR s = (0, false, 6) := fun h h2 h3 => by rw [rootR, if_neg h, if_neg (by simp [h2]), if_pos (.inl h3)]
  have r4 : ¬ s = [] → (numR s 0).2.2 = 0 → (numR s 0).1 < 0 → rootR s = (0, false, 6) := fun h h2 h3 => by rw [rootR, if_neg h, if_neg (by simp [h2]), if_pos (.inr (.inl h3))]
  have r5 : ¬ s = [] → (numR s 0).2.2 = 0 → 1099511627776 < (numR s 0).1 → rootR s = (0, false, 6) := fun h h2 h3 => by rw [rootR, if_neg h, if_neg (by simp [h2]), if_pos (.inr (.inr h3))]
  have r6 : ¬ s = [] → (numR s 0).2.2 = 0 → s.length ≤ (numR s 0).2.1 → 0 ≤ (numR s 0).1 → (numR s 0).1 ≤ 1099511627776 → rootR s = ((numR s 0).1, true, 0) := fun h h2 h3 h4 h5 => by rw [rootR, if_neg h, if_neg (by simp [h2]), if_neg (by omega)]
  have hn := rootR_num h0 h1
  have hn1 : 0 ≤ n → n ≤ 1099511627776 → rootR (numS n) = (n, true, 0) := fun a b => by rw [hn, if_pos ⟨a, b⟩]
  have hn2 : n < 0 → rootR (numS n) = (0, false, 6) := fun a => by rw [hn, if_neg (by omega)]
  have hn3 : 1099511627776 < n → rootR (numS n) = (0, false, 6) := fun a => by rw [hn, if_neg (by omega)]
  clear hn
  repeat' (first | (simp -dsimp only [↓reduceIte, go_sem]) | (refine arr_intro fun _ => ?_) | (refine later_intro ⟨keeps_nil, ?_⟩) | (refine later_intro ⟨keeps_refl, ?_⟩) | (refine both_ways ?_ ?_) | (rw [wrap_i64 (by omega) (by omega)]) | (refine guardV_split (fun h => ?_) (fun h => ?_) <;> (try rw [h]) <;> (try simp at h) <;> (try (exfalso; omega))) | (refine readRoot_c ?_) | (refine ReadNumber_c (by decide) (by decide) ?_) | (refine root_c h0 h1 ?_) | (refine Number_c h0 h1 ?_) | (refine awake_c ?_))
  all_goals first
    | exact hK
    | (simp_all; done)
    | (simp_all; omega)
    | (by_cases hq : n ≤ 1099511627776 <;> simp_all; done)
    | trace_state

theorem imageCuts_c {d : List UInt8} {size : Int} {l : List (List UInt8)} {tk : Tk} (h0 : -9223372036854775808 ≤ size) (h1 : size ≤ 9223372036854775807) {σ : AST} {K : AV → AST → Prop} (hK : K (.bool true) σ) : TCalls Try.prog 4 [.str d, .int .i64 size, .slice tk (l.map AV.str)] σ K := by
  refine tcalls_walk Try.f4 _ [.tmp 6] Try.func4 rfl rfl rfl mixed (Nat.le_of_ble_eq_true rfl) rfl fun hlen => ?_
  obtain ⟨tkc, hc⟩ := slS_tk (f := AV.str) (l := cut d)
  repeat' (first | (simp -dsimp only [↓reduceIte, go_sem]) | (refine arr_intro fun _ => ?_) | (refine later_intro ⟨keeps_nil, ?_⟩) | (refine later_intro ⟨keeps_refl, ?_⟩) | (refine both_ways ?_ ?_) | (rw [wrap_i64 (by omega) (by omega)]) | (refine guardV_split (fun h => ?_) (fun h => ?_) <;> (try rw [h]) <;> (try simp at h) <;> (try (exfalso; omega))) | (refine awake_c ?_) | (refine cut_c (by omega) ?_) | (rw [hc]))
  · exact hK
  · have hcl := cut_len d
    refine awp_rounds (fun (i : Nat) τ s => s = σ ∧ i ≤ (cut d).length ∧ τ 0 = .str d ∧ τ 1 = .int .i64 size ∧ τ 2 = .slice tk (l.map AV.str) ∧ τ 7 = .slice tkc ((cut d).map AV.str) ∧ τ 8 = .int .i64 i) (fun i => (cut d).length - i) 0 ?_ ?_
    · refine ⟨rfl, by omega, ?_, ?_, ?_, ?_, ?_⟩ <;> (try simp only [go_sem]) <;> rfl
    · rintro i τ s ⟨rfl, hi, t0, t1, t2, t7, t8⟩
      simp -dsimp only [↓reduceIte, go_sem, t0, t1, t2, t7, t8]
      refine arr_intro fun _ => ?_
      simp -dsimp only [↓reduceIte, go_sem, t0, t1, t2, t7, t8]
      refine boolW_split (fun hb => ?_) (fun hb => ?_)
      · have hb : i < (cut d).length := by simp at hb; omega
        obtain ⟨y, hy⟩ := get_lt hb
        obtain ⟨hy1, hy2⟩ := cut_at d i y hy
        repeat' (first | (simp -dsimp only [↓reduceIte, go_sem, t0, t1, t2, t7, t8]) | (refine arr_intro fun _ => ?_) | (refine later_intro ⟨keeps_nil, ?_⟩) | (refine later_intro ⟨keeps_refl, ?_⟩) | (refine both_ways ?_ ?_) | (rw [wrap_i64 (by omega) (by omega)]) | (refine guardV_split (fun h => ?_) (fun h => ?_) <;> (try rw [h]) <;> (try simp at h) <;> (try (exfalso; omega))) | (refine nth_get hy ?_))
        all_goals first
          | (exfalso; omega)
          | (simp_all; done)
          | (refine later_intro ⟨i + 1, by omega, rfl, by omega, ?_, ?_, ?_, ?_, ?_⟩ <;> (try simp only [go_sem, t0, t1, t2, t7, t8]) <;> rfl)
          | trace_state
      · have hb : i = (cut d).length := by simp at hb; omega
        have j1 : (d.length : Int) ≤ 512 → joinV (d.length : Int) (cut d) = (d, 0) := fun h => joinV_cut (by omega)
        have j2 : 512 < (d.length : Int) → joinV (d.length : Int) (cut d) = ([], 6) := fun h => joinV_big (by omega)
        clear hb
        repeat' (first | (simp -dsimp only [↓reduceIte, go_sem, t0, t1, t2, t7, t8]) | (refine arr_intro fun _ => ?_) | (refine later_intro ⟨keeps_nil, ?_⟩) | (refine later_intro ⟨keeps_refl, ?_⟩) | (refine both_ways ?_ ?_) | (rw [wrap_i64 (by omega) (by omega)]) | (refine guardV_split (fun h => ?_) (fun h => ?_) <;> (try rw [h]) <;> (try simp at h) <;> (try (exfalso; omega))) | (refine join_c (by omega) (by omega) ?_))
        all_goals first
          | exact hK
          | (simp_all; done)
          | (simp_all; omega)
          | skip
        all_goals
          refine awp_rounds (fun (i : Nat) τ s' => s' = s ∧ i ≤ l.length ∧ (∀ (j : Nat) t, j < i → l[j]? = some t → t.length ≤ 100) ∧ τ 1 = .int .i64 size ∧ τ 2 = .slice tk (l.map AV.str) ∧ τ 11 = .int .i64 i) (fun i => l.length - i) 0 ?_ ?_
          · refine ⟨rfl, by omega, fun j t h => by omega, ?_, ?_, ?_⟩ <;> (try simp only [go_sem, t0, t1, t2, t7, t8]) <;> rfl
          · rintro i τ s' ⟨rfl, hi, hall, t1, t2, t11⟩
            simp -dsimp only [↓reduceIte, go_sem, t1, t2, t11]
            refine arr_intro fun _ => ?_
            simp -dsimp only [↓reduceIte, go_sem, t1, t2, t11]
            refine boolW_split (fun hb => ?_) (fun hb => ?_)
            · have hb : i < l.length := by simp at hb; omega
              obtain ⟨y, hy⟩ := get_lt hb
              repeat' (first | (simp -dsimp only [↓reduceIte, go_sem, t1, t2, t11]) | (refine arr_intro fun _ => ?_) | (refine later_intro ⟨keeps_nil, ?_⟩) | (refine later_intro ⟨keeps_refl, ?_⟩) | (refine both_ways ?_ ?_) | (rw [wrap_i64 (by omega) (by omega)]) | (refine guardV_split (fun h => ?_) (fun h => ?_) <;> (try rw [h]) <;> (try simp at h) <;> (try (exfalso; omega))) | (refine nth_get hy ?_) | (refine awake_c ?_))
              · exact hK
              · refine later_intro ⟨i + 1, by omega, rfl, by omega, ?_, ?_, ?_, ?_⟩ <;> (try simp only [go_sem, t1, t2, t11]) <;> (try rfl)
                intro j t hj ht
                by_cases hji : j < i
                · exact hall j t hji ht
                · obtain rfl : j = i := by omega
                  rw [hy] at ht; cases ht; omega
            · have hb : i = l.length := by simp at hb; omega
              have hl1 : ∀ t ∈ l, t.length ≤ 1000 := fun t ht => by
                obtain ⟨j, hj⟩ := List.mem_iff_getElem?.1 ht
                have := hall j t (by have := (List.getElem?_eq_some_iff.1 hj).1; omega) hj
                omega
              repeat' (first | (simp -dsimp only [↓reduceIte, go_sem, t1, t2, t11]) | (refine arr_intro fun _ => ?_) | (refine later_intro ⟨keeps_nil, ?_⟩) | (refine later_intro ⟨keeps_refl, ?_⟩) | (refine both_ways ?_ ?_) | (rw [wrap_i64 (by omega) (by omega)]) | (refine guardV_split (fun h => ?_) (fun h => ?_) <;> (try rw [h]) <;> (try simp at h) <;> (try (exfalso; omega))) | (refine join_c h0 h1 ?_) | (refine Join_c h0 h1 hl1 ?_) | (refine awake_c ?_))
              all_goals exact hK
  · exact hK
end Go.Aff.L21

/- Layer 1, walked: lists compared; lists that are read, by their names. -/
namespace Go.Aff.L01
open Go.Proofs Go.Aff
set_option linter.unusedVariables false
set_option linter.unusedSimpArgs false
attribute [local go_sem] Try.underlying3 Try.underlying4 Try.underlying5 Try.underlying9 Try.underlying43 Try.underlying75 Try.underlying23 Try.underlying44 Try.underlying29 fits3 fits9

theorem readNumbers_c {s : List UInt8} {i : Int} (hi0 : -9223372036854775808 ≤ i) (hi1 : i ≤ 9223372036854775807) {σ : AST} {K : AV → AST → Prop}
    (hK : K (tupL (AV.int .i64) (readR (numP s) s i)) σ) : TCalls Try.prog 37 [.str s, .int .i64 i] σ K := by
  refine tcalls_walk Try.f37 _ [.tmp 4, .tmp 5, .tmp 6] Try.func37 rfl rfl rfl mixed (Nat.le_of_ble_eq_true rfl) rfl fun hlen => ?_
  simp -dsimp only [↓reduceIte, go_sem]
  refine readInts_c hi0 hi1 ?_
  unfold tupL at hK ⊢
  generalize readR (numP s) s i = r at hK ⊢
  obtain ⟨l, n, e⟩ := r
  dsimp only at hK ⊢
  split
  · rename_i h; rw [if_pos h] at hK
    simp -dsimp only [↓reduceIte, go_sem]
    exact hK
  · rename_i h; rw [if_neg h] at hK
    simp -dsimp only [↓reduceIte, go_sem]
    exact hK
theorem readTexts_c {s : List UInt8} {i : Int} (hi0 : -9223372036854775808 ≤ i) (hi1 : i ≤ 9223372036854775807) {σ : AST} {K : AV → AST → Prop}
    (hK : K (tupL AV.str (readR (textP s) s i)) σ) : TCalls Try.prog 39 [.str s, .int .i64 i] σ K := by
  refine tcalls_walk Try.f39 _ [.tmp 4, .tmp 5, .tmp 6] Try.func39 rfl rfl rfl mixed (Nat.le_of_ble_eq_true rfl) rfl fun hlen => ?_
  simp -dsimp only [↓reduceIte, go_sem]
  refine readStrs_c hi0 hi1 ?_
  unfold tupL at hK ⊢
  generalize readR (textP s) s i = r at hK ⊢
  obtain ⟨l, n, e⟩ := r
  dsimp only at hK ⊢
  split
  · rename_i h; rw [if_pos h] at hK
    simp -dsimp only [↓reduceIte, go_sem]
    exact hK
  · rename_i h; rw [if_neg h] at hK
    simp -dsimp only [↓reduceIte, go_sem]
    exact hK

theorem ints_c {a b : List Int} {ta tb : Tk} {σ : AST} {K : AV → AST → Prop} (hK : K (.bool (decide (a = b))) σ) : TCalls Try.prog 43 [.slice ta (a.map (AV.int .i64)), .slice tb (b.map (AV.int .i64))] σ K := by
  refine tcalls_walk Try.f43 _ [.tmp 4] Try.func43 rfl rfl rfl mixed (Nat.le_of_ble_eq_true rfl) rfl fun hlen => ?_
  have ha : a.length ≤ 9223372036854775807 := by
    have := hlen (.slice ta (a.map (AV.int .i64))) (by simp)
    simp only [lenOk, List.length_map, maxL] at this; exact this
  simp -dsimp only [↓reduceIte, go_sem]
  refine arr_intro fun _ => ?_
  simp -dsimp only [↓reduceIte, go_sem]
  refine arr_intro fun _ => ?_
  simp only [List.length_map]
  simp -dsimp only [↓reduceIte, go_sem]
  refine boolW_split (fun h1 => ?_) (fun h1 => ?_)
  · have h1 : a.length ≠ b.length := by simp at h1; omega
    simp -dsimp only [↓reduceIte, go_sem]
    rw [show decide (a = b) = false by simp; intro h; rw [h] at h1; exact h1 rfl] at hK
    exact hK
  · have h1 : a.length = b.length := by simp at h1; omega
    simp -dsimp only [↓reduceIte, go_sem]
    refine awp_rounds (fun (i : Nat) τ s => s = σ ∧ i ≤ a.length ∧ τ 0 = .slice ta (a.map (AV.int .i64)) ∧ τ 1 = .slice tb (b.map (AV.int .i64)) ∧ τ 5 = .int .i64 i ∧ a.take i = b.take i) (fun i => a.length - i) 0 ?_ ?_
    · refine ⟨rfl, by omega, ?_, ?_, ?_, by simp⟩ <;> simp only [go_sem] <;> rfl
    · rintro i τ s ⟨rfl, hi, t0, t1, t5, ht⟩
      simp -dsimp only [↓reduceIte, go_sem, t0, t1, t5]
      refine arr_intro fun _ => ?_
      simp only [List.length_map]
      simp -dsimp only [↓reduceIte, go_sem, t0, t1, t5]
      refine boolW_split (fun h2 => ?_) (fun h2 => ?_)
      · have h2 : i < a.length := by simp at h2; omega
        obtain ⟨x, hx⟩ := get_lt h2
        obtain ⟨y, hy⟩ := get_lt (l := b) (i := i) (by omega)
        simp -dsimp only [↓reduceIte, go_sem, t0, t1, t5]
        refine awp_drawS [0, 1, 2, 3, 4, 5, 6, 7, 8] (by kernel_rfl) ?_
        simp -dsimp only [↓reduceIte, go_sem, t0, t1, t5]
        refine nth_get hx ?_
        simp -dsimp only [↓reduceIte, go_sem, t0, t1, t5]
        refine nth_get hy ?_
        simp -dsimp only [↓reduceIte, go_sem, t0, t1, t5]
        refine boolW_split (fun h3 => ?_) (fun h3 => ?_)
        · have h3 : x ≠ y := by simpa using h3
          simp -dsimp only [↓reduceIte, go_sem, t0, t1, t5]
          rw [show decide (a = b) = false by simp; intro h; rw [h, hy] at hx; exact h3 (Option.some.inj hx).symm] at hK
          exact hK
        · have h3 : x = y := by simpa using h3
          simp -dsimp only [↓reduceIte, go_sem, t0, t1, t5]
          rw [wrap_i64 (by omega) (by omega)]
          refine later_intro ⟨i + 1, by omega, ?_⟩
          refine ⟨rfl, by omega, ?_, ?_, ?_, ?_⟩ <;> (try simp only [go_sem, t0, t1, t5]) <;> try rfl
          rw [List.take_add_one, List.take_add_one, ht, hx, hy, h3]
      · have h2 : i = a.length := by simp at h2; omega
        simp -dsimp only [↓reduceIte, go_sem, t0, t1, t5]
        rw [h2, List.take_length, h1, List.take_length] at ht
        rw [show decide (a = b) = true by simpa using ht] at hK
        exact hK

theorem same_c {a b : List (List UInt8)} {ta tb : Tk} {σ : AST} {K : AV → AST → Prop} (hK : K (.bool (decide (a = b))) σ) : TCalls Try.prog 44 [.slice ta (a.map AV.str), .slice tb (b.map AV.str)] σ K := by
  refine tcalls_walk Try.f44 _ [.tmp 4] Try.func44 rfl rfl rfl mixed (Nat.le_of_ble_eq_true rfl) rfl fun hlen => ?_
  have ha : a.length ≤ 9223372036854775807 := by
    have := hlen (.slice ta (a.map AV.str)) (by simp)
    simp only [lenOk, List.length_map, maxL] at this; exact this
  simp -dsimp only [↓reduceIte, go_sem]
  refine arr_intro fun _ => ?_
  simp -dsimp only [↓reduceIte, go_sem]
  refine arr_intro fun _ => ?_
  simp only [List.length_map]
  simp -dsimp only [↓reduceIte, go_sem]
  refine boolW_split (fun h1 => ?_) (fun h1 => ?_)
  · have h1 : a.length ≠ b.length := by simp at h1; omega
    simp -dsimp only [↓reduceIte, go_sem]
    rw [show decide (a = b) = false by simp; intro h; rw [h] at h1; exact h1 rfl] at hK
    exact hK
  · have h1 : a.length = b.length := by simp at h1; omega
    simp -dsimp only [↓reduceIte, go_sem]
    refine awp_rounds (fun (i : Nat) τ s => s = σ ∧ i ≤ a.length ∧ τ 0 = .slice ta (a.map AV.str) ∧ τ 1 = .slice tb (b.map AV.str) ∧ τ 5 = .int .i64 i ∧ a.take i = b.take i) (fun i => a.length - i) 0 ?_ ?_
    · refine ⟨rfl, by omega, ?_, ?_, ?_, by simp⟩ <;> simp only [go_sem] <;> rfl
    · rintro i τ s ⟨rfl, hi, t0, t1, t5, ht⟩
      simp -dsimp only [↓reduceIte, go_sem, t0, t1, t5]
      refine arr_intro fun _ => ?_
      simp only [List.length_map]
      simp -dsimp only [↓reduceIte, go_sem, t0, t1, t5]
      refine boolW_split (fun h2 => ?_) (fun h2 => ?_)
      · have h2 : i < a.length := by simp at h2; omega
        obtain ⟨x, hx⟩ := get_lt h2
        obtain ⟨y, hy⟩ := get_lt (l := b) (i := i) (by omega)
        simp -dsimp only [↓reduceIte, go_sem, t0, t1, t5]
        refine awp_drawS [0, 1, 2, 3, 4, 5, 6, 7, 8] (by kernel_rfl) ?_
        simp -dsimp only [↓reduceIte, go_sem, t0, t1, t5]
        refine nth_get hx ?_
        simp -dsimp only [↓reduceIte, go_sem, t0, t1, t5]
        refine nth_get hy ?_
        simp -dsimp only [↓reduceIte, go_sem, t0, t1, t5]
        refine boolW_split (fun h3 => ?_) (fun h3 => ?_)
        · have h3 : x ≠ y := by simpa using h3
          simp -dsimp only [↓reduceIte, go_sem, t0, t1, t5]
          rw [show decide (a = b) = false by simp; intro h; rw [h, hy] at hx; exact h3 (Option.some.inj hx).symm] at hK
          exact hK
        · have h3 : x = y := by simpa using h3
          simp -dsimp only [↓reduceIte, go_sem, t0, t1, t5]
          rw [wrap_i64 (by omega) (by omega)]
          refine later_intro ⟨i + 1, by omega, ?_⟩
          refine ⟨rfl, by omega, ?_, ?_, ?_, ?_⟩ <;> (try simp only [go_sem, t0, t1, t5]) <;> try rfl
          rw [List.take_add_one, List.take_add_one, ht, hx, hy, h3]
      · have h2 : i = a.length := by simp at h2; omega
        simp -dsimp only [↓reduceIte, go_sem, t0, t1, t5]
        rw [h2, List.take_length, h1, List.take_length] at ht
        rw [show decide (a = b) = true by simpa using ht] at hK
        exact hK
end Go.Aff.L01

