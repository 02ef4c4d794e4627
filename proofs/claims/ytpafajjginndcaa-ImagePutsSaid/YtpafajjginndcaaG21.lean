import Derived.Test.YtpafajjginndcaaG20
import Derived.Test.YtpafajjginndcaaG10

/- Layer 21, walked: the laws of laying, cutting, roots. -/
namespace Go.Aff.L21
open Go.Proofs Go.Aff Go.Aff.L01 Classical
set_option linter.unusedVariables false
set_option linter.unusedSimpArgs false
attribute [local go_sem] push_app app_app length_app cellAt_app cellAt_app0 set_app set_app0 objs_app objs_app0 List.cons_append List.nil_append List.length_cons List.length_nil List.getElem?_cons_zero List.getElem?_cons_succ List.set_cons_zero List.set_cons_succ
attribute [-go_sem] cellAt_new
attribute [local go_sem] Try.underlying3 fits4 Try.underlying4 fits5 Try.underlying5 Try.underlying9 fits22 Try.underlying22 fits23 Try.underlying23 fits29 Try.underlying29 fits43 Try.underlying43 fits44 Try.underlying44 fits46 p46_0 p46_1 p46_2 p46_3 p46_4 p46_5 Try.underlying46 fits64 p64_0 p64_1 Try.underlying64
attribute [local go_sem] fits3 fits9
attribute [local go_sem ↓] blockQ_exit2
attribute [local go_sem] List.length_map
attribute [-simp] List.length_flatMap
attribute [local go_sem] zt46 zero46 size_leaf agg_leaf shape_leafV known_leaf rootV tup3

theorem joinV_cut {d : List UInt8} (h : d.length ≤ 512) : joinV (d.length : Int) (cut d) = (d, 0) := by
  have : joinR (d.length : Int) (cut d) := ⟨by omega, by omega, by rw [cut_len]; omega, by rw [Int.toNat_natCast]; exact cut_join⟩
  rw [joinV, if_pos this, cut_flat]
theorem joinV_big {d : List UInt8} {l : List (List UInt8)} (h : 512 < d.length) : joinV (d.length : Int) l = ([], 6) := by
  rw [joinV, if_neg]; intro h; have := h.2.1; omega
theorem E22 : ElemT Try.prog 22 46 6 96 := ⟨rfl, by kernel_rfl, by kernel_rfl, ⟨_, zeroOf46⟩, by decide⟩
theorem built46' : Built Try.prog 46 = True := by simp [built46]
attribute [local go_sem] built46'
theorem table_one : Table [⟨1, 1, 0, [], [], []⟩] := by
  intro i x hx
  cases i with
  | zero =>
    simp only [List.getElem?_cons_zero, Option.some.injEq] at hx
    subst hx
    refine ⟨⟨by decide, by decide, .inr ⟨rfl, fun i s h => by simp at h, fun n hn => by simp at hn, rfl, rfl, rfl⟩⟩, fun y h0 => by omega⟩
  | succ i => simp at hx
theorem numS_1 : numS 1 = [49, 59] := by simp [numS, dg_small]
theorem numS_0 : numS 0 = [48, 59] := by simp [numS, dg_small]
theorem putG_one : putG [⟨1, 1, 0, [], [], []⟩] = ([49, 59, 49, 59, 48, 59, 40, 41, 40, 41, 40, 41], 0) := by
  have e : [(⟨1, 1, 0, [], [], []⟩ : Leaf)].flatMap leafG = [49, 59, 49, 59, 48, 59, 40, 41, 40, 41, 40, 41] := by
    simp [leafG, numsB, textsB, laidAll, L01.part, numS_1, numS_0]
  rw [putG, if_pos table_one, e]; rfl
theorem rootR_num {n : Int} (h0 : -9223372036854775808 ≤ n) (h1 : n ≤ 9223372036854775807) : rootR (numS n) = if 0 ≤ n ∧ n ≤ 1099511627776 then (n, true, 0) else (0, false, 6) := by
  have hb := num_back (x := []) (y := []) h0 h1
  simp only [List.nil_append, List.append_nil, List.length_nil, Nat.zero_add] at hb
  have hr : numR (numS n) 0 = (n, ((numS n).length : Int), 0) := by
    rw [numR, if_neg (by omega)]; exact hb
  have hne : numS n ≠ [] := by
    intro h
    rw [numR, if_neg (by omega), h] at hr
    have := congrArg (fun x : Int × Int × Int => x.2.2) hr
    simp only [List.length_nil] at this
    exact absurd this (by decide +kernel)
  rw [rootR, if_neg hne, hr]
  simp only [ne_eq, not_true_eq_false, if_false]
  by_cases h : 0 ≤ n ∧ n ≤ 1099511627776
  · rw [if_pos h, if_neg (by omega)]
  · rw [if_neg h, if_pos (by omega)]

theorem awake_c {σ : AST} {K : AV → AST → Prop} (hK : K (.bool true) σ) : TCalls Try.prog 9 [] σ K := by
  refine tcalls_walk Try.f9 _ [.tmp 0] Try.func9 rfl rfl rfl mixed (Nat.le_of_ble_eq_true rfl) rfl fun hlen => ?_
  simp -dsimp only [↓reduceIte, go_sem]
  refine cut_c (by decide) ?_
  obtain ⟨tkc, hc⟩ := slS_tk (f := AV.str) (l := cut [48, 49, 50, 51, 52, 53, 54, 55, 56, 57, 48, 49, 50, 51, 52, 53, 54, 55, 56, 57, 48, 49, 50, 51, 52, 53, 54, 55, 56, 57, 48, 49, 50, 51, 52, 53, 54, 55, 56, 57])
  rw [hc]
  simp -dsimp only [↓reduceIte, go_sem]
  refine join_c (by decide) (by decide) ?_
  have hj := joinV_cut (d := [48, 49, 50, 51, 52, 53, 54, 55, 56, 57, 48, 49, 50, 51, 52, 53, 54, 55, 56, 57, 48, 49, 50, 51, 52, 53, 54, 55, 56, 57, 48, 49, 50, 51, 52, 53, 54, 55, 56, 57]) (by decide)
  simp only [List.length_cons, List.length_nil] at hj
  rw [show ((0 + 1 + 1 + 1 + 1 + 1 + 1 + 1 + 1 + 1 + 1 + 1 + 1 + 1 + 1 + 1 + 1 + 1 + 1 + 1 + 1 + 1 + 1 + 1 + 1 + 1 + 1 + 1 + 1 + 1 + 1 + 1 + 1 + 1 + 1 + 1 + 1 + 1 + 1 + 1 + 1 : Nat) : Int) = 40 by decide] at hj
  rw [hj]
  have ec : cut [48, 49, 50, 51, 52, 53, 54, 55, 56, 57, 48, 49, 50, 51, 52, 53, 54, 55, 56, 57, 48, 49, 50, 51, 52, 53, 54, 55, 56, 57, 48, 49, 50, 51, 52, 53, 54, 55, 56, 57] = [[48, 49, 50, 51, 52, 53, 54, 55, 56, 57, 48, 49, 50, 51, 52, 53, 54, 55, 56, 57, 48, 49, 50, 51, 52, 53, 54, 55, 56, 57, 48, 49], [50, 51, 52, 53, 54, 55, 56, 57]] := by decide +kernel
  rw [ec]
  repeat' (first | (simp -dsimp only [↓reduceIte, go_sem]) | (refine arr_intro fun _ => ?_) | (rw [wrap_i64 (by omega) (by omega)]) | (refine guardV_split (fun h => ?_) (fun h => ?_) <;> (try rw [h]) <;> (try simp at h) <;> (try (exfalso; omega))) | (refine root_c (by decide) (by decide) ?_))
  refine readRoot_c ?_
  rw [rootR_num (by decide) (by decide), if_pos (by decide)]
  repeat' (first | (simp -dsimp only [↓reduceIte, go_sem]) | (refine arr_intro fun _ => ?_) | (rw [wrap_i64 (by omega) (by omega)]) | (refine guardV_split (fun h => ?_) (fun h => ?_) <;> (try rw [h]) <;> (try simp at h) <;> (try (exfalso; omega))) | (refine build_slice E22 rfl (by decide) (by intro v hv; simp at hv; rcases hv with rfl; exact ⟨by simp only [go_sem], rfl⟩) ?_))
  refine put_c (l := [⟨⟨1, 1, 0, [], [], []⟩, .full, .full, .full⟩]) ?_
  simp only [List.map_cons, List.map_nil, putG_one]
  repeat' (first | (simp -dsimp only [↓reduceIte, go_sem]) | (refine arr_intro fun _ => ?_) | (rw [wrap_i64 (by omega) (by omega)]) | (refine guardV_split (fun h => ?_) (fun h => ?_) <;> (try rw [h]) <;> (try simp at h) <;> (try (exfalso; omega))))
  refine nth_get (i := 1) rfl ?_
  repeat' (first | (simp -dsimp only [↓reduceIte, go_sem]) | (refine arr_intro fun _ => ?_) | (rw [wrap_i64 (by omega) (by omega)]) | (refine guardV_split (fun h => ?_) (fun h => ?_) <;> (try rw [h]) <;> (try simp at h) <;> (try (exfalso; omega))))
  exact hK

theorem putG_err {l : List Leaf} : (putG l).2 = 2 ∨ (putG l).2 = 4 ∨ (putG l).2 = 0 := by
  unfold putG; split
  · split <;> simp
  · simp
theorem flatG {l : List Leaf} (hT : Table l) (hL : Light l) : l.flatMap leafS = l.flatMap leafG := by
  have hR : ∀ y ∈ l, y.Right := fun y hy => by
    obtain ⟨i, hi⟩ := List.mem_iff_getElem?.1 hy
    exact (hT i y hi).1
  have : ∀ x ∈ l, leafS x = leafG x := fun y hy => by
    have h1 := hL.2 y hy
    have h2 := (hR y hy).ints.2.2.2
    have a1 : numsB y.blocks = laidAll numS y.blocks := by unfold numsB; rw [if_neg (by omega)]
    have a2 : numsB y.nodes = laidAll numS y.nodes := by unfold numsB; rw [if_neg (by omega)]
    have a3 : textsB y.names = laidAll textS y.names := by
      unfold textsB; rw [if_neg]
      rintro (h | ⟨s, hs, h⟩)
      · omega
      · have := h2 s hs; omega
    rw [leafS, leafG, a1, a2, a3]
  have key : ∀ m : List Leaf, (∀ x ∈ m, leafS x = leafG x) → m.flatMap leafS = m.flatMap leafG := fun m => by
    induction m with
    | nil => intro _; rfl
    | cons x r ih => intro h; rw [List.flatMap_cons, List.flatMap_cons, h x (by simp), ih fun y hy => h y (by simp [hy])]
  exact key l this
theorem putG_light {l : List Leaf} (hL : Light l) : (¬ Table l → putG l = ([], 2)) ∧ (Table l → 4096 < ((l.flatMap leafS).length : Int) → putG l = ([], 4)) ∧ (Table l → ((l.flatMap leafS).length : Int) ≤ 4096 → putG l = (l.flatMap leafS, 0)) := by
  unfold putG
  refine ⟨fun h => by rw [if_neg h], fun h h2 => ?_, fun h h2 => ?_⟩
  · rw [if_pos h, ← flatG h hL, if_pos (by omega)]
  · rw [if_pos h, ← flatG h hL, if_neg (by omega)]
theorem imagePuts_c {l : List TLeaf} {tk : Tk} {σ : AST} {K : AV → AST → Prop} (hK : K (.bool true) σ) : TCalls Try.prog 3 [.slice tk (l.map leafV)] σ K := by
  refine tcalls_walk Try.f3 _ [.tmp 2] Try.func3 rfl rfl rfl mixed (Nat.le_of_ble_eq_true rfl) rfl fun hlen => ?_
  have h3 := putG_err (l := l.map (·.x))
  repeat' (first | (simp -dsimp only [↓reduceIte, go_sem]) | (refine arr_intro fun _ => ?_) | (rw [wrap_i64 (by omega) (by omega)]) | (refine guardV_split (fun h => ?_) (fun h => ?_) <;> (try rw [h]) <;> (try simp at h) <;> (try (exfalso; omega))) | (refine put_c ?_) | (refine light_c ?_) | (refine Table_c ?_) | (refine lay_c ‹_› ‹_› ?_) | (refine awake_c ?_))
  all_goals first
    | exact hK
    | (have hL : Light (l.map (·.x)) := by assumption
       obtain ⟨p1, p2, p3⟩ := putG_light hL; simp_all; done)
    | (rcases h3 with h3 | h3 | h3 <;> simp_all; done)
    | trace_state

theorem imageRoots_c {n : Int} {s : List UInt8} (h0 : -9223372036854775808 ≤ n) (h1 : n ≤ 9223372036854775807) {σ : AST} {K : AV → AST → Prop} (hK : K (.bool true) σ) : TCalls Try.prog 5 [.int .i64 n, .str s] σ K := by
  refine tcalls_walk Try.f5 _ [.tmp 4] Try.func5 rfl rfl rfl mixed (Nat.le_of_ble_eq_true rfl) rfl fun hlen => ?_
  have r1 : s = [] → rootR s = (0, false, 0) := fun h => by rw [rootR, if_pos h]
  have r2 : ¬ s = [] → ¬ (numR s 0).2.2 = 0 → rootR s = (0, false, (numR s 0).2.2) := fun h h2 => by rw [rootR, if_neg h, if_pos h2]
  have r3 : ¬ s = [] → (numR s 0).2.2 = 0 → (numR s 0).2.1 < s.length → rootR s = (0, false, 6) := fun h h2 h3 => by rw [rootR, if_neg h, if_neg (by simp [h2]), if_pos (.inl h3)]
  have r4 : ¬ s = [] → (numR s 0).2.2 = 0 → (numR s 0).1 < 0 → rootR s = (0, false, 6) := fun h h2 h3 => by rw [rootR, if_neg h, if_neg (by simp [h2]), if_pos (.inr (.inl h3))]
  have r5 : ¬ s = [] → (numR s 0).2.2 = 0 → 1099511627776 < (numR s 0).1 → rootR s = (0, false, 6) := fun h h2 h3 => by rw [rootR, if_neg h, if_neg (by simp [h2]), if_pos (.inr (.inr h3))]
  have r6 : ¬ s = [] → (numR s 0).2.2 = 0 → s.length ≤ (numR s 0).2.1 → 0 ≤ (numR s 0).1 → (numR s 0).1 ≤ 1099511627776 → rootR s = ((numR s 0).1, true, 0) := fun h h2 h3 h4 h5 => by rw [rootR, if_neg h, if_neg (by simp [h2]), if_neg (by omega)]
  have hn := rootR_num h0 h1
  have hn1 : 0 ≤ n → n ≤ 1099511627776 → rootR (numS n) = (n, true, 0) := fun a b => by rw [hn, if_pos ⟨a, b⟩]
  have hn2 : n < 0 → rootR (numS n) = (0, false, 6) := fun a => by rw [hn, if_neg (by omega)]
  have hn3 : 1099511627776 < n → rootR (numS n) = (0, false, 6) := fun a => by rw [hn, if_neg (by omega)]
  clear hn
  repeat' (first | (simp -dsimp only [↓reduceIte, go_sem]) | (refine arr_intro fun _ => ?_) | (rw [wrap_i64 (by omega) (by omega)]) | (refine guardV_split (fun h => ?_) (fun h => ?_) <;> (try rw [h]) <;> (try simp at h) <;> (try (exfalso; omega))) | (refine readRoot_c ?_) | (refine ReadNumber_c (by decide) (by decide) ?_) | (refine root_c h0 h1 ?_) | (refine Number_c h0 h1 ?_) | (refine awake_c ?_))
  all_goals first
    | exact hK
    | (simp_all; done)
    | (simp_all; omega)
    | (by_cases hq : n ≤ 1099511627776 <;> simp_all; done)
    | trace_state

theorem imageCuts_c {d : List UInt8} {size : Int} {l : List (List UInt8)} {tk : Tk} (h0 : -9223372036854775808 ≤ size) (h1 : size ≤ 9223372036854775807) {σ : AST} {K : AV → AST → Prop} (hK : K (.bool true) σ) : TCalls Try.prog 4 [.str d, .int .i64 size, .slice tk (l.map AV.str)] σ K := by
  refine tcalls_walk Try.f4 _ [.tmp 6] Try.func4 rfl rfl rfl mixed (Nat.le_of_ble_eq_true rfl) rfl fun hlen => ?_
  obtain ⟨tkc, hc⟩ := slS_tk (f := AV.str) (l := cut d)
  repeat' (first | (simp -dsimp only [↓reduceIte, go_sem]) | (refine arr_intro fun _ => ?_) | (rw [wrap_i64 (by omega) (by omega)]) | (refine guardV_split (fun h => ?_) (fun h => ?_) <;> (try rw [h]) <;> (try simp at h) <;> (try (exfalso; omega))) | (refine awake_c ?_) | (refine cut_c (by omega) ?_) | (rw [hc]))
  · exact hK
  · have hcl := cut_len d
    refine awp_rounds (fun (i : Nat) τ s => s = σ ∧ i ≤ (cut d).length ∧ τ 0 = .str d ∧ τ 1 = .int .i64 size ∧ τ 2 = .slice tk (l.map AV.str) ∧ τ 7 = .slice tkc ((cut d).map AV.str) ∧ τ 8 = .int .i64 i) (fun i => (cut d).length - i) 0 ?_ ?_
    · refine ⟨rfl, by omega, ?_, ?_, ?_, ?_, ?_⟩ <;> (try simp only [go_sem]) <;> rfl
    · rintro i τ s ⟨rfl, hi, t0, t1, t2, t7, t8⟩
      simp -dsimp only [↓reduceIte, go_sem, t0, t1, t2, t7, t8]
      refine arr_intro fun _ => ?_
      simp -dsimp only [↓reduceIte, go_sem, t0, t1, t2, t7, t8]
      refine boolW_split (fun hb => ?_) (fun hb => ?_)
      · have hb : i < (cut d).length := by simp at hb; omega
        obtain ⟨y, hy⟩ := get_lt hb
        obtain ⟨hy1, hy2⟩ := cut_at d i y hy
        repeat' (first | (simp -dsimp only [↓reduceIte, go_sem, t0, t1, t2, t7, t8]) | (refine arr_intro fun _ => ?_) | (rw [wrap_i64 (by omega) (by omega)]) | (refine guardV_split (fun h => ?_) (fun h => ?_) <;> (try rw [h]) <;> (try simp at h) <;> (try (exfalso; omega))) | (refine nth_get hy ?_))
        all_goals first
          | (exfalso; omega)
          | (simp_all; done)
          | (refine later_intro ⟨i + 1, by omega, rfl, by omega, ?_, ?_, ?_, ?_, ?_⟩ <;> (try simp only [go_sem, t0, t1, t2, t7, t8]) <;> rfl)
          | trace_state
      · have hb : i = (cut d).length := by simp at hb; omega
        have j1 : (d.length : Int) ≤ 512 → joinV (d.length : Int) (cut d) = (d, 0) := fun h => joinV_cut (by omega)
        have j2 : 512 < (d.length : Int) → joinV (d.length : Int) (cut d) = ([], 6) := fun h => joinV_big (by omega)
        clear hb
        repeat' (first | (simp -dsimp only [↓reduceIte, go_sem, t0, t1, t2, t7, t8]) | (refine arr_intro fun _ => ?_) | (rw [wrap_i64 (by omega) (by omega)]) | (refine guardV_split (fun h => ?_) (fun h => ?_) <;> (try rw [h]) <;> (try simp at h) <;> (try (exfalso; omega))) | (refine join_c (by omega) (by omega) ?_))
        all_goals first
          | exact hK
          | (simp_all; done)
          | (simp_all; omega)
          | skip
        all_goals
          refine awp_rounds (fun (i : Nat) τ s' => s' = s ∧ i ≤ l.length ∧ (∀ (j : Nat) t, j < i → l[j]? = some t → t.length ≤ 100) ∧ τ 1 = .int .i64 size ∧ τ 2 = .slice tk (l.map AV.str) ∧ τ 11 = .int .i64 i) (fun i => l.length - i) 0 ?_ ?_
          · refine ⟨rfl, by omega, fun j t h => by omega, ?_, ?_, ?_⟩ <;> (try simp only [go_sem, t0, t1, t2, t7, t8]) <;> rfl
          · rintro i τ s' ⟨rfl, hi, hall, t1, t2, t11⟩
            simp -dsimp only [↓reduceIte, go_sem, t1, t2, t11]
            refine arr_intro fun _ => ?_
            simp -dsimp only [↓reduceIte, go_sem, t1, t2, t11]
            refine boolW_split (fun hb => ?_) (fun hb => ?_)
            · have hb : i < l.length := by simp at hb; omega
              obtain ⟨y, hy⟩ := get_lt hb
              repeat' (first | (simp -dsimp only [↓reduceIte, go_sem, t1, t2, t11]) | (refine arr_intro fun _ => ?_) | (rw [wrap_i64 (by omega) (by omega)]) | (refine guardV_split (fun h => ?_) (fun h => ?_) <;> (try rw [h]) <;> (try simp at h) <;> (try (exfalso; omega))) | (refine nth_get hy ?_) | (refine awake_c ?_))
              · exact hK
              · refine later_intro ⟨i + 1, by omega, rfl, by omega, ?_, ?_, ?_, ?_⟩ <;> (try simp only [go_sem, t1, t2, t11]) <;> (try rfl)
                intro j t hj ht
                by_cases hji : j < i
                · exact hall j t hji ht
                · obtain rfl : j = i := by omega
                  rw [hy] at ht; cases ht; omega
            · have hb : i = l.length := by simp at hb; omega
              have hl1 : ∀ t ∈ l, t.length ≤ 1000 := fun t ht => by
                obtain ⟨j, hj⟩ := List.mem_iff_getElem?.1 ht
                have := hall j t (by have := (List.getElem?_eq_some_iff.1 hj).1; omega) hj
                omega
              repeat' (first | (simp -dsimp only [↓reduceIte, go_sem, t1, t2, t11]) | (refine arr_intro fun _ => ?_) | (rw [wrap_i64 (by omega) (by omega)]) | (refine guardV_split (fun h => ?_) (fun h => ?_) <;> (try rw [h]) <;> (try simp at h) <;> (try (exfalso; omega))) | (refine join_c h0 h1 ?_) | (refine Join_c h0 h1 hl1 ?_) | (refine awake_c ?_))
              all_goals exact hK
  · exact hK
end Go.Aff.L21

/- What is known of arguments' sizes. -/
namespace Go.Aff
set_option linter.unusedVariables false
set_option linter.unusedSimpArgs false
open Go.RowKit Go.ChangeShapes Go.WideShapes Go.ChangeAt Go.ChangeMaps

variable {H : Type} {enc : TypeId × Value → H} {P : Program} {W : World} {g : G}

mutual
/-- No slice within is longer than memory. -/
def WtT (P : Program) : Nat → TypeId → AV → Prop
  | 0, _, _ => True
  | n + 1, t, v => match P.underlying t with
    | some (.slice e) => ∀ tk xs, v = .slice tk xs → xs.length * P.bytesOf e ≤ 140737488351232 ∧ ∀ x ∈ xs, WtT P n e x
    | some (.struct fs) => ∀ ps, v = .agg ps → WtTs P n fs.toList ps
    | _ => True
def WtTs (P : Program) : Nat → List Field → List AV → Prop
  | 0, _, _ => True
  | n + 1, f :: fs, p :: ps => WtT P n f.type p ∧ WtTs P n fs ps
  | _, _, _ => True
end
def WtAll (P : Program) (n : Nat) : List TypeId → List AV → Prop
  | t :: ts, v :: vs => WtT P n t v ∧ WtAll P n ts vs
  | _, _ => True

theorem weightsAll_mem {e : TypeId} : ∀ {l : List (DataW H)} {d : DataW H}, d ∈ l → ∀ x ∈ d.weights P e, x ∈ DataW.weightsAll P e l
  | [], d, h => by simp at h
  | a :: r, d, h => fun x hx => by
    simp only [DataW.weightsAll, List.mem_append]
    rcases List.mem_cons.1 h with rfl | h
    · exact .inl hx
    · exact .inr (weightsAll_mem h x hx)

mutual
theorem wt_of : ∀ (m : Nat) (t : TypeId) (d : DataW H), (∀ x ∈ d.weights P t, x ≤ reachBytes) → WtT P m t (absD d)
  | 0, t, d, h => trivial
  | m + 1, t, d, h => by
    unfold WtT
    split
    · rename_i e hu
      intro tk xs hv
      cases d with
      | slice elems spare =>
        simp only [absD, AV.slice.injEq] at hv
        obtain ⟨rfl, rfl⟩ := hv
        simp only [DataW.weights, hu] at h
        have h1 := h _ (List.mem_cons_self ..)
        rw [absDs_map]
        refine ⟨?_, fun x hx => ?_⟩
        · rw [List.length_map]
          have : reachBytes = 140737488351232 := by decide
          rw [this] at h1
          exact Nat.le_trans (Nat.mul_le_mul_right _ (Nat.le_add_right _ _)) h1
        · obtain ⟨d, hd, rfl⟩ := List.mem_map.1 hx
          exact wt_of m e d fun y hy => h y (List.mem_cons_of_mem _ (List.mem_append_left _ (weightsAll_mem hd y hy)))
      | nil =>
        simp only [absD, AV.slice.injEq] at hv
        obtain ⟨rfl, rfl⟩ := hv
        simp
      | lit l => cases l <;> simp [absD] at hv
      | agg ps =>
        simp only [absD] at hv
        rcases aggD_cases (absDs ps) with ⟨d, h1⟩ | h1 <;> rw [h1] at hv <;> cases hv
      | ptr d => simp [absD] at hv
      | iface n d => simp [absD] at hv
      | map es => simp [absD] at hv
      | held x => simp [absD] at hv
    · rename_i fs hu
      intro ps hv
      cases d with
      | agg parts =>
        simp only [absD] at hv
        have hv : absDs parts = ps := by
          rcases aggD_cases (absDs parts) with ⟨d, h1⟩ | h1
          · rw [h1] at hv; cases hv
          · rw [h1] at hv; simpa using hv
        subst hv
        simp only [DataW.weights, hu] at h
        exact wts_of m fs.toList parts h
      | slice elems spare => simp [absD] at hv
      | nil => simp [absD] at hv
      | lit l => cases l <;> simp [absD] at hv
      | ptr d => simp [absD] at hv
      | iface n d => simp [absD] at hv
      | map es => simp [absD] at hv
      | held x => simp [absD] at hv
    · trivial
theorem wts_of : ∀ (m : Nat) (fs : List Field) (ds : List (DataW H)), (∀ x ∈ DataW.weightsEach P (fs.map (·.type)) ds, x ≤ reachBytes) → WtTs P m fs (absDs ds)
  | 0, fs, ds, h => by unfold WtTs; trivial
  | m + 1, [], ds, h => by unfold WtTs; trivial
  | m + 1, f :: fs, [], h => by simp only [absDs]; unfold WtTs; trivial
  | m + 1, f :: fs, d :: ds, h => by
    simp only [absDs, WtTs]
    simp only [List.map_cons, DataW.weightsEach, List.mem_append] at h
    exact ⟨wt_of m f.type d fun x hx => h x (.inl hx), wts_of m fs ds fun x hx => h x (.inr hx)⟩
end
theorem wtAll_of {n : Nat} : ∀ (ts : List TypeId) (ds : List (DataW H)), (∀ x ∈ DataW.weightsEach P ts ds, x ≤ reachBytes) → WtAll P n ts (ds.map absD)
  | [], ds, h => by cases ds <;> trivial
  | t :: ts, [], h => trivial
  | t :: ts, d :: ds, h => by
    simp only [DataW.weightsEach, List.mem_append] at h
    exact ⟨wt_of n t d fun x hx => h x (.inl hx), wtAll_of ts ds fun x hx => h x (.inr hx)⟩

/-- As lift_law, where the law may know that arguments fit into memory. -/
theorem lift_law_w {C : Checked} {os : Os} {f : FuncId} {fn : Func} {s : ChangeSpec} {conds : List PathCond} {tb : TypeId} (own : ownKnob C.prog.godebug = none) (started : os.Started) (noInit : C.prog.inits.idxOf? f = none) (hfn : C.prog.funcs[f]? = some fn)
    (witness : ∃ (w : World) (tape : Tape) (i : Input), w.os = os ∧ (w.forCall tape i).Shaped C.prog ∧ i.vars = [] ∧ Input.okWide C.prog (w.forCall tape i) .any w.heap.size f i ∧
      s.pre6 enc C.prog fn conds false (w.forCall tape i).memory i.args ∧ Assume.holds {} C.prog (lone (Frame.enter C.prog f i.args .normal) [] (w.forCall tape i)))
    (hvars : s.vars = []) (hs : ∀ ds : List (DataW H), ds.length = fn.params.toList.length → s.fn H ds = { results := [.lit (.bool true)], args := ds }) (hl : laidOutB C.prog = true)
    (hp : (fn.params.toList.all fun t => plainT C.prog 12 t && shOk C.prog 12 t) = true) (hr : (fn.params.toList.all fun t => C.prog.readableRec t && decide (t < C.prog.types.size)) = true)
    (hres : fn.resultTypes = #[tb]) (hb : C.prog.underlying tb = some .bool)
    (law : ∀ vs, ShAll C.prog 12 fn.params.toList vs → WtAll C.prog 12 fn.params.toList vs → TCalls C.prog f vs ⟨[], []⟩ fun v _ => v = .bool true) :
    ReturnsInHanded {} C os f .any (s.pre6 enc C.prog fn conds false) (s.post enc C.prog fn false true false false) := by
  refine returnsInHanded_of_change_sized own started noInit hfn witness ?_
  intro W base args ds gs before hval hW _ hwt _
  obtain ⟨p, q, hA, hV, rfl, hfz, hnd⟩ := id hW
  rw [hvars] at hV
  obtain ⟨rfl, rfl⟩ := trodVars_nil hV
  have hvt : s.plain.varTypes C.prog = [] := by simp [ChangeSpec.plain, hvars, DataSpec.varTypes]
  rw [hvt, List.append_nil, List.append_nil, List.all_eq_true] at hwt
  have hwt' : WtAll C.prog 12 fn.params.toList (ds.map absD) := wtAll_of _ _ fun x hx => by simpa using hwt x hx
  let g0 : G := ⟨W.heap.size, [], fun _ => none, []⟩
  have hrel := args_rel (g := g0) (enc := enc) (P := C.prog) (W := W) (base := base) (Nat.le_refl _) fn.params.toList args.toList ds p hp hA (fun j t v ht hv => hval j t v (by simpa using ht) (by simpa using hv))
  have hI : Inv g0 ⟨[], []⟩ W := by
    refine ⟨Nat.le_refl _, rfl, ?_, ?_, ?_, rfl, ?_, ?_⟩
    · intro i o h; simp at h
    · intro i j o o' b sh sh' h; simp at h
    · intro b L h; cases h
    · intro t e h; simp [g0] at h
    · intro t u e e' b o o' h; simp [g0] at h
  refine ((law _ hrel.2 hwt').2 g0 W args hI hrel.1).mono ?_
  rintro e W' ⟨x, g', v, σ', he, hE, hI', hv, rfl⟩
  have hx : x = .bool true := relV_bool hv
  subst hx
  subst he
  have bel : Below W.heap.size W W' := ⟨hE.os, hE.tape, hE.output, hE.size, fun k hk => hE.old k hk⟩
  have hlen := trodAll_len _ _ _ _ hA
  refine ⟨_, rfl, ds, [], p ++ [], [], p, [], hW, ?_, ?_, ?_, bel.frame _, fun h => by cases h⟩
  · rw [List.append_nil, hs ds hlen, hres]
    exact trodAll_mk1 (shut_bool hb _)
  · rw [List.append_nil, hs ds hlen]
    exact args_stay hl bel _ _ _ _ hr hA
  · rw [List.append_nil, hs ds hlen, hvars]
    rfl
theorem wt_slice {n : Nat} {t e : TypeId} {tk : Tk} {xs : List AV} (hu : P.underlying t = some (.slice e)) (h : WtT P (n + 1) t (.slice tk xs)) : xs.length * P.bytesOf e ≤ 140737488351232 ∧ ∀ x ∈ xs, WtT P n e x := by
  unfold WtT at h; rw [hu] at h; exact h tk xs rfl
theorem wt_struct {n : Nat} {t : TypeId} {fs : Array Field} {ps : List AV} (hu : P.underlying t = some (.struct fs)) (h : WtT P (n + 1) t (.agg ps)) : WtTs P n fs.toList ps := by
  unfold WtT at h; rw [hu] at h; exact h ps rfl
theorem wtTs_cons {n : Nat} {f : Field} {fs : List Field} {p : AV} {ps : List AV} (h : WtTs P (n + 1) (f :: fs) (p :: ps)) : WtT P n f.type p ∧ WtTs P n fs ps := by
  unfold WtTs at h; exact h
end Go.Aff

/- Layer 21: what an argument's shape says of a table. -/
namespace Go.Aff.L21
open Go.Proofs Go.Aff Go.Aff.L01 Classical
set_option linter.unusedVariables false

theorem sh_ints {n : Nat} {v : AV} (h : ShT Try.prog (n + 2) 44 v) : ∃ (tk : Tk) (l : List Int), v = .slice tk (l.map (AV.int .i64)) := by
  obtain ⟨tk, xs, rfl, e⟩ := sh_slice (n := n + 1) (t := 44) Try.underlying44 h
  obtain ⟨l, rfl, _⟩ := map_of (f := AV.int .i64) (p := fun _ => True) (fun x hx => by obtain ⟨i, rfl, _, _⟩ := sh_int (n := n) (t := 3) Try.underlying3 (e x hx); exact ⟨i, rfl, trivial⟩)
  exact ⟨tk, l, rfl⟩
theorem sh_strs {n : Nat} {v : AV} (h : ShT Try.prog (n + 2) 29 v) : ∃ (tk : Tk) (l : List (List UInt8)), v = .slice tk (l.map AV.str) := by
  obtain ⟨tk, xs, rfl, e⟩ := sh_slice (n := n + 1) (t := 29) Try.underlying29 h
  obtain ⟨l, rfl, _⟩ := map_of (f := AV.str) (p := fun _ => True) (fun x hx => by obtain ⟨i, rfl⟩ := sh_str (n := n) (t := 9) Try.underlying9 (e x hx); exact ⟨i, rfl, trivial⟩)
  exact ⟨tk, l, rfl⟩
theorem sh_leaf {n : Nat} {v : AV} (h : ShT Try.prog (n + 9) 46 v) : ∃ y : TLeaf, v = leafV y ∧ True := by
  obtain ⟨ps, rfl, hps⟩ := sh_struct (n := n + 8) Try.underlying46 h
  obtain ⟨p0, r, rfl, h0, hps⟩ := shTs_cons (n := n + 7) hps
  obtain ⟨p1, r, rfl, h1, hps⟩ := shTs_cons (n := n + 6) hps
  obtain ⟨p2, r, rfl, h2, hps⟩ := shTs_cons (n := n + 5) hps
  obtain ⟨p3, r, rfl, h3, hps⟩ := shTs_cons (n := n + 4) hps
  obtain ⟨p4, r, rfl, h4, hps⟩ := shTs_cons (n := n + 3) hps
  obtain ⟨p5, r, rfl, h5, hps⟩ := shTs_cons (n := n + 2) hps
  obtain rfl := shTs_nil hps
  obtain ⟨a, rfl, _, _⟩ := sh_int (t := 3) Try.underlying3 h0
  obtain ⟨b, rfl, _, _⟩ := sh_int (t := 3) Try.underlying3 h1
  obtain ⟨c, rfl, _, _⟩ := sh_int (t := 3) Try.underlying3 h2
  obtain ⟨t1, l1, rfl⟩ := sh_ints h3
  obtain ⟨t2, l2, rfl⟩ := sh_strs h4
  obtain ⟨t3, l3, rfl⟩ := sh_ints (n := n) h5
  exact ⟨⟨⟨a, b, c, l1, l2, l3⟩, t1, t2, t3⟩, rfl, trivial⟩
theorem sh_table {v : AV} (h : ShT Try.prog 12 22 v) : ∃ (tk : Tk) (l : List TLeaf), v = .slice tk (l.map leafV) := by
  obtain ⟨tk, xs, rfl, e⟩ := sh_slice (n := 11) (t := 22) Try.underlying22 h
  obtain ⟨l, rfl, _⟩ := map_of (f := leafV) (p := fun _ => True) (fun x hx => sh_leaf (n := 2) (e x hx))
  exact ⟨tk, l, rfl⟩
end Go.Aff.L21

