import Derived.Test.YtahhjdknfhkgcaaG14

set_option linter.unusedSimpArgs false
set_option linter.unusedVariables false

namespace Go.Aff.L10
open Go.Proofs Go.Aff Go.Aff.L01 Classical
set_option maxRecDepth 20000
attribute [local go_sem] push_app app_app length_app cellAt_app cellAt_app0 set_app set_app0 objs_app objs_app0 List.cons_append List.nil_append List.length_cons List.length_nil List.getElem?_cons_zero List.getElem?_cons_succ List.set_cons_zero List.set_cons_succ List.length_map
attribute [-go_sem] cellAt_new
attribute [-simp] List.length_flatMap
attribute [local go_sem] Try.underlying9 Try.underlying50
attribute [local go_sem] fits3 fits31
attribute [local go_sem ↓] blockQ_exit2
attribute [local go_sem] L21.zt46 L21.zero46 L21.agg_leaf L21.known_leaf L21.fits46 L21.p46_0 L21.p46_1 L21.p46_2 L21.p46_3 Try.underlying84 Try.underlying22
open Go.Aff.L31
structure Tch where
  node : Int
  from_ : Int
  end_ : Int
def tch0 : Tch := ⟨0, 0, 0⟩
def tchPs (x : Tch) : List AV := [.int .i64 x.node, .int .i64 x.from_, .int .i64 x.end_]
abbrev tchV (x : Tch) : AV := .agg (tchPs x)
theorem tchPs_0 {x : Tch} : (tchPs x)[0]? = some (.int .i64 x.node) := nr rfl
theorem tchAt_0 {x : Tch} {v : AV} : partIs Try.prog 24 (tchPs x) 0 v = fits Try.prog 3 v := by rw [partIs_of (o := 0) (T := 3) (by kernel_rfl)]; simp [tchPs, AV.sizes, AV.size]
theorem tchPs_1 {x : Tch} : (tchPs x)[1]? = some (.int .i64 x.from_) := nr rfl
theorem tchAt_1 {x : Tch} {v : AV} : partIs Try.prog 24 (tchPs x) 1 v = fits Try.prog 3 v := by rw [partIs_of (o := 1) (T := 3) (by kernel_rfl)]; simp [tchPs, AV.sizes, AV.size]
theorem tchPs_2 {x : Tch} : (tchPs x)[2]? = some (.int .i64 x.end_) := nr rfl
theorem tchAt_2 {x : Tch} {v : AV} : partIs Try.prog 24 (tchPs x) 2 v = fits Try.prog 3 v := by rw [partIs_of (o := 2) (T := 3) (by kernel_rfl)]; simp [tchPs, AV.sizes, AV.size]
theorem sizes_tch {x : Tch} : AV.sizes (tchPs x) = 3 := by simp [tchPs, AV.sizes, AV.size]
theorem fits_tch {v : AV} : fits Try.prog 24 v = (v.isAgg = true ∧ v.size = 3) := fits_agg (by kernel_rfl) (by kernel_rfl)
theorem zero_tch : zeroA Try.prog 12 24 = .agg (tchPs tch0) := by kernel_rfl
theorem zt_tch : ZeroOf Try.prog 24 (.agg (tchPs tch0)) = True := eq_true ⟨_, _, rfl, rfl, rfl, rfl, rfl⟩
theorem built_tch : Built Try.prog 24 = True := eq_true (by unfold Built; rw [Try.underlying24]; decide +kernel)
attribute [local go_sem] tchPs_0 tchAt_0 tchPs_1 tchAt_1 tchPs_2 tchAt_2 Try.underlying24
abbrev Leaf := L21.Leaf
def FewL (l : List Leaf) : Prop := l.length ≤ 40 ∧ ∀ x ∈ l, x.blocks.length ≤ 40 ∧ x.names.length ≤ 80 ∧ x.nodes.length ≤ 80
noncomputable def byt (l : List Leaf) : List UInt8 := l.flatMap L21.leafG
def TabOk (l : List Leaf) : Prop := L21.Table l ∧ (byt l).length ≤ 4096 ∧ VolOk (l.map nodeOf)
theorem putG_val {l : List Leaf} : (L21.putG l).2 = 0 ∧ (L21.putG l).1 = byt l ∧ L21.Table l ∧ (byt l).length ≤ 4096 ∨ (L21.putG l).2 ≠ 0 ∧ ¬ (L21.Table l ∧ (byt l).length ≤ 4096) := by
  unfold L21.putG
  by_cases h : L21.Table l
  · rw [if_pos h]
    by_cases h2 : 4096 < (l.flatMap L21.leafG).length
    · rw [if_pos h2]; exact .inr ⟨by decide, fun ⟨_, q⟩ => by unfold byt at q; omega⟩
    · rw [if_neg h2]; exact .inl ⟨rfl, rfl, h, by unfold byt; omega⟩
  · rw [if_neg h]; exact .inr ⟨by decide, fun q => h q.1⟩
theorem nodes_x {l : List TL} {L : List TNd} (h : NodesOf l L) : L.map (·.x) = (l.map (·.x)).map nodeOf := by
  unfold NodesOf at h; rw [h, List.map_map]; rfl
section
variable {σ : AST} {K : AV → AST → Prop}
theorem table_c31 {l : List TL} {tk : Tk} (hf : FewL (l.map (·.x)))
    (hT : TabOk (l.map (·.x)) → K (.tuple [.int .i64 (byt (l.map (·.x))).length, .bool true]) σ) (hF : ¬ TabOk (l.map (·.x)) → ∀ n, K (.tuple [.int .i64 n, .bool false]) σ) : TCalls Try.prog 36 [.slice tk (l.map L21.leafV)] σ K := by
  refine TCalls.drop ?_
  obtain ⟨hl, hx⟩ := hf
  rw [List.length_map] at hl
  have hx' : ∀ y ∈ l, y.x.names.length ≤ 5000 ∧ y.x.nodes.length ≤ 5000 := fun y hy => by have := hx y.x (List.mem_map.2 ⟨y, hy, rfl⟩); omega
  rcases putG_val (l := l.map (·.x)) with ⟨h1, h2, h3, h4⟩ | ⟨h1, h2⟩
  · refine tcalls_walk Try.f36 _ [.tmp 2, .tmp 3] Try.func36 rfl rfl rfl mixed (Nat.le_of_ble_eq_true rfl) rfl fun hlen => ?_
    repeat' (first | (simp -dsimp only [↓reduceIte, go_sem, h1, h2]) | (refine arr_intro fun _ => ?_) | (refine later_intro ⟨keeps_nil, ?_⟩) | (refine later_intro ⟨keeps_refl, ?_⟩) | (with_reducible refine keeps_go ?_ ?_; focus (first | (simp [keeps_cons, keeps_none, objs_app, objs_app0]; done) | (simp only [keeps_cons, keeps_none, objs_app0, objs_app, and_true]; first | rfl | exact ⟨rfl, rfl⟩ | exact ⟨rfl, rfl, rfl⟩))) | (with_reducible refine (And.intro (a := keeps _ _ _) ?_ ?_); focus (first | (simp [keeps_cons, keeps_none, objs_app, objs_app0]; done) | (simp only [keeps_cons, keeps_none, objs_app0, objs_app, and_true]; first | rfl | exact ⟨rfl, rfl⟩ | exact ⟨rfl, rfl, rfl⟩))) | (refine both_ways ?_ ?_) | (rw [wrap_i64 (by omega) (by omega)]) | (refine guardV_split (fun h => ?_) (fun h => ?_) <;> (try rw [h]) <;> (try simp at h) <;> (try (exfalso; omega))) | (refine L21.put_c ?_) | (refine inodes_c (by omega) hx' (fun s' t L hN hE => ?_)))
    have hNx := nodes_x hN
    have hPn : ∀ y ∈ L, PlainN y.x := fun y hy => by
      have : y.x ∈ (l.map (·.x)).map nodeOf := by rw [← hNx]; exact List.mem_map.2 ⟨y, hy, rfl⟩
      obtain ⟨z, hz, e⟩ := List.mem_map.1 this
      obtain ⟨i, hi⟩ := List.mem_iff_getElem?.1 hz
      rw [← e]
      exact plain_of_right (h3 i z hi).1 (hx z hz).2.1
    have hAs : Asc (L.map (·.x)) := by rw [hNx]; exact asc_of_table h3
    have hLl : L.length ≤ 80 := by have := congrArg List.length hNx; simp at this; omega
    have hT' : VolOk (L.map (·.x)) → TabOk (l.map (·.x)) := fun h => ⟨h3, h4, by rw [← hNx]; exact h⟩
    have hF' : ¬ VolOk (L.map (·.x)) → ¬ TabOk (l.map (·.x)) := fun h q => h (by rw [hNx]; exact q.2.2)
    refine of_c hPn hAs hLl (fun ho s2 j hE2 => ?_) (fun ho s2 hE2 => ?_)
    · repeat' (first | (simp -dsimp only [↓reduceIte, go_sem]) | (refine arr_intro fun _ => ?_) | (refine later_intro ⟨keeps_nil, ?_⟩) | (refine later_intro ⟨keeps_refl, ?_⟩) | (with_reducible refine keeps_go ?_ ?_; focus (first | (simp [keeps_cons, keeps_none, objs_app, objs_app0]; done) | (simp only [keeps_cons, keeps_none, objs_app0, objs_app, and_true]; first | rfl | exact ⟨rfl, rfl⟩ | exact ⟨rfl, rfl, rfl⟩))) | (with_reducible refine (And.intro (a := keeps _ _ _) ?_ ?_); focus (first | (simp [keeps_cons, keeps_none, objs_app, objs_app0]; done) | (simp only [keeps_cons, keeps_none, objs_app0, objs_app, and_true]; first | rfl | exact ⟨rfl, rfl⟩ | exact ⟨rfl, rfl, rfl⟩))) | (refine both_ways ?_ ?_) | (rw [wrap_i64 (by omega) (by omega)]) | (refine guardV_split (fun h => ?_) (fun h => ?_) <;> (try rw [h]) <;> (try simp at h) <;> (try (exfalso; omega))))
      exact ⟨hE.trans hE2, rfl, hT (hT' ho)⟩
    · repeat' (first | (simp -dsimp only [↓reduceIte, go_sem]) | (refine arr_intro fun _ => ?_) | (refine later_intro ⟨keeps_nil, ?_⟩) | (refine later_intro ⟨keeps_refl, ?_⟩) | (with_reducible refine keeps_go ?_ ?_; focus (first | (simp [keeps_cons, keeps_none, objs_app, objs_app0]; done) | (simp only [keeps_cons, keeps_none, objs_app0, objs_app, and_true]; first | rfl | exact ⟨rfl, rfl⟩ | exact ⟨rfl, rfl, rfl⟩))) | (with_reducible refine (And.intro (a := keeps _ _ _) ?_ ?_); focus (first | (simp [keeps_cons, keeps_none, objs_app, objs_app0]; done) | (simp only [keeps_cons, keeps_none, objs_app0, objs_app, and_true]; first | rfl | exact ⟨rfl, rfl⟩ | exact ⟨rfl, rfl, rfl⟩))) | (refine both_ways ?_ ?_) | (rw [wrap_i64 (by omega) (by omega)]) | (refine guardV_split (fun h => ?_) (fun h => ?_) <;> (try rw [h]) <;> (try simp at h) <;> (try (exfalso; omega))))
      exact ⟨hE.trans hE2, rfl, hF (hF' ho) _⟩
  · refine tcalls_walk Try.f36 _ [.tmp 2, .tmp 3] Try.func36 rfl rfl rfl mixed (Nat.le_of_ble_eq_true rfl) rfl fun hlen => ?_
    have hb : ((L21.putG (l.map (·.x))).2 != 0) = true := by simpa using h1
    repeat' (first | (simp -dsimp only [↓reduceIte, go_sem, h1, hb]) | (refine arr_intro fun _ => ?_) | (refine later_intro ⟨keeps_nil, ?_⟩) | (refine later_intro ⟨keeps_refl, ?_⟩) | (with_reducible refine keeps_go ?_ ?_; focus (first | (simp [keeps_cons, keeps_none, objs_app, objs_app0]; done) | (simp only [keeps_cons, keeps_none, objs_app0, objs_app, and_true]; first | rfl | exact ⟨rfl, rfl⟩ | exact ⟨rfl, rfl, rfl⟩))) | (with_reducible refine (And.intro (a := keeps _ _ _) ?_ ?_); focus (first | (simp [keeps_cons, keeps_none, objs_app, objs_app0]; done) | (simp only [keeps_cons, keeps_none, objs_app0, objs_app, and_true]; first | rfl | exact ⟨rfl, rfl⟩ | exact ⟨rfl, rfl, rfl⟩))) | (refine both_ways ?_ ?_) | (rw [wrap_i64 (by omega) (by omega)]) | (refine guardV_split (fun h => ?_) (fun h => ?_) <;> (try rw [h]) <;> (try simp at h) <;> (try (exfalso; omega))) | (refine L21.put_c ?_))
    exact ⟨Ext.refl _, rfl, hF (fun q => h2 ⟨q.1, q.2.1⟩) _⟩
theorem leafS_G {l : List Leaf} (hT : L21.Table l) (hf : FewL l) : l.flatMap L21.leafS = byt l := by
  unfold byt
  rw [List.flatMap, List.flatMap]
  congr 1
  refine List.map_congr_left fun x hx => ?_
  obtain ⟨i, hi⟩ := List.mem_iff_getElem?.1 hx
  have h1 := hf.2 x hx
  have h2 := ((hT i x hi).1).ints.2.2.2
  have a1 : L21.numsB x.blocks = laidAll numS x.blocks := by unfold L21.numsB; rw [if_neg (by omega)]
  have a2 : L21.numsB x.nodes = laidAll numS x.nodes := by unfold L21.numsB; rw [if_neg (by omega)]
  have a3 : L21.textsB x.names = laidAll textS x.names := by
    unfold L21.textsB; rw [if_neg]
    rintro (h | ⟨s, hs, h⟩)
    · omega
    · have := h2 s hs; omega
  rw [L21.leafS, L21.leafG, a1, a2, a3]
theorem may_c {l : List TL} {tk : Tk} (hf : FewL (l.map (·.x))) (hT : TabOk (l.map (·.x)) → K (.bool true) σ) (hF : ¬ TabOk (l.map (·.x)) → K (.bool false) σ) : TCalls Try.prog 41 [.slice tk (l.map L21.leafV)] σ K := by
  refine TCalls.drop ?_
  have hf2 := hf
  obtain ⟨hl, hx⟩ := hf
  rw [List.length_map] at hl
  by_cases h3 : L21.Table (l.map (·.x))
  · have hs5 : ∀ y ∈ l, 0 ≤ y.x.size ∧ y.x.size ≤ 512 := fun y hy => by
      obtain ⟨i, hi⟩ := List.mem_iff_getElem?.1 (List.mem_map.2 ⟨y, hy, rfl⟩ : y.x ∈ l.map (·.x))
      rcases (h3 i _ hi).1.2.2 with ⟨_, q⟩ | ⟨_, q⟩
      · exact ⟨q.2.1, q.2.2.1⟩
      · have := q.2.2.1; omega
    have hLt : L21.Light (l.map (·.x)) := ⟨by rw [List.length_map]; omega, hx⟩
    have hb := leafS_G h3 hf2
    by_cases h4 : (byt (l.map (·.x))).length ≤ 4096
    · have h4' : ((byt (l.map (·.x))).length : Int) ≤ 4096 := by omega
      refine tcalls_walk Try.f41 _ [.tmp 2] Try.func41 rfl rfl rfl mixed (Nat.le_of_ble_eq_true rfl) rfl fun hlen => ?_
      repeat' (first | (simp -dsimp only [↓reduceIte, go_sem, h3, hb, h4']) | (refine arr_intro fun _ => ?_) | (refine later_intro ⟨keeps_nil, ?_⟩) | (refine later_intro ⟨keeps_refl, ?_⟩) | (with_reducible refine keeps_go ?_ ?_; focus (first | (simp [keeps_cons, keeps_none, objs_app, objs_app0]; done) | (simp only [keeps_cons, keeps_none, objs_app0, objs_app, and_true]; first | rfl | exact ⟨rfl, rfl⟩ | exact ⟨rfl, rfl, rfl⟩))) | (with_reducible refine (And.intro (a := keeps _ _ _) ?_ ?_); focus (first | (simp [keeps_cons, keeps_none, objs_app, objs_app0]; done) | (simp only [keeps_cons, keeps_none, objs_app0, objs_app, and_true]; first | rfl | exact ⟨rfl, rfl⟩ | exact ⟨rfl, rfl, rfl⟩))) | (refine both_ways ?_ ?_) | (rw [wrap_i64 (by omega) (by omega)]) | (refine guardV_split (fun h => ?_) (fun h => ?_) <;> (try rw [h]) <;> (try simp at h) <;> (try (exfalso; omega))) | (refine L21.Table_c ?_) | (refine L21.lay_c h3 hLt ?_) | (refine rnodes_c (by omega) hs5 (fun s' t L hN hE => ?_)))
      have hNx := nodes_x hN
      have hPn : ∀ y ∈ L, PlainN y.x := fun y hy => by
        have : y.x ∈ (l.map (·.x)).map nodeOf := by rw [← hNx]; exact List.mem_map.2 ⟨y, hy, rfl⟩
        obtain ⟨z, hz, e⟩ := List.mem_map.1 this
        obtain ⟨i, hi⟩ := List.mem_iff_getElem?.1 hz
        rw [← e]
        exact plain_of_right (h3 i z hi).1 (hx z hz).2.1
      have hAs : Asc (L.map (·.x)) := by rw [hNx]; exact asc_of_table h3
      have hLl : L.length ≤ 80 := by have := congrArg List.length hNx; simp at this; omega
      have hT' : VolOk (L.map (·.x)) → TabOk (l.map (·.x)) := fun h => ⟨h3, h4, by rw [← hNx]; exact h⟩
      have hF' : ¬ VolOk (L.map (·.x)) → ¬ TabOk (l.map (·.x)) := fun h q => h (by rw [hNx]; exact q.2.2)
      refine rof_c hPn hAs hLl (fun ho s2 j hE2 => ?_) (fun ho s2 hE2 => ?_)
      · repeat' (first | (simp -dsimp only [↓reduceIte, go_sem, Try.underlying36]) | (refine arr_intro fun _ => ?_) | (refine later_intro ⟨keeps_nil, ?_⟩) | (refine later_intro ⟨keeps_refl, ?_⟩) | (with_reducible refine keeps_go ?_ ?_; focus (first | (simp [keeps_cons, keeps_none, objs_app, objs_app0]; done) | (simp only [keeps_cons, keeps_none, objs_app0, objs_app, and_true]; first | rfl | exact ⟨rfl, rfl⟩ | exact ⟨rfl, rfl, rfl⟩))) | (with_reducible refine (And.intro (a := keeps _ _ _) ?_ ?_); focus (first | (simp [keeps_cons, keeps_none, objs_app, objs_app0]; done) | (simp only [keeps_cons, keeps_none, objs_app0, objs_app, and_true]; first | rfl | exact ⟨rfl, rfl⟩ | exact ⟨rfl, rfl, rfl⟩))) | (refine both_ways ?_ ?_) | (rw [wrap_i64 (by omega) (by omega)]) | (refine guardV_split (fun h => ?_) (fun h => ?_) <;> (try rw [h]) <;> (try simp at h) <;> (try (exfalso; omega))))
        exact ⟨hE.trans hE2, rfl, hT (hT' ho)⟩
      · repeat' (first | (simp -dsimp only [↓reduceIte, go_sem, Try.underlying36]) | (refine arr_intro fun _ => ?_) | (refine later_intro ⟨keeps_nil, ?_⟩) | (refine later_intro ⟨keeps_refl, ?_⟩) | (with_reducible refine keeps_go ?_ ?_; focus (first | (simp [keeps_cons, keeps_none, objs_app, objs_app0]; done) | (simp only [keeps_cons, keeps_none, objs_app0, objs_app, and_true]; first | rfl | exact ⟨rfl, rfl⟩ | exact ⟨rfl, rfl, rfl⟩))) | (with_reducible refine (And.intro (a := keeps _ _ _) ?_ ?_); focus (first | (simp [keeps_cons, keeps_none, objs_app, objs_app0]; done) | (simp only [keeps_cons, keeps_none, objs_app0, objs_app, and_true]; first | rfl | exact ⟨rfl, rfl⟩ | exact ⟨rfl, rfl, rfl⟩))) | (refine both_ways ?_ ?_) | (rw [wrap_i64 (by omega) (by omega)]) | (refine guardV_split (fun h => ?_) (fun h => ?_) <;> (try rw [h]) <;> (try simp at h) <;> (try (exfalso; omega))))
        exact ⟨hE.trans hE2, rfl, hF (hF' ho)⟩
    · have h4' : ¬ ((byt (l.map (·.x))).length : Int) ≤ 4096 := by omega
      refine tcalls_walk Try.f41 _ [.tmp 2] Try.func41 rfl rfl rfl mixed (Nat.le_of_ble_eq_true rfl) rfl fun hlen => ?_
      repeat' (first | (simp -dsimp only [↓reduceIte, go_sem, h3, hb, h4']) | (refine arr_intro fun _ => ?_) | (refine later_intro ⟨keeps_nil, ?_⟩) | (refine later_intro ⟨keeps_refl, ?_⟩) | (with_reducible refine keeps_go ?_ ?_; focus (first | (simp [keeps_cons, keeps_none, objs_app, objs_app0]; done) | (simp only [keeps_cons, keeps_none, objs_app0, objs_app, and_true]; first | rfl | exact ⟨rfl, rfl⟩ | exact ⟨rfl, rfl, rfl⟩))) | (with_reducible refine (And.intro (a := keeps _ _ _) ?_ ?_); focus (first | (simp [keeps_cons, keeps_none, objs_app, objs_app0]; done) | (simp only [keeps_cons, keeps_none, objs_app0, objs_app, and_true]; first | rfl | exact ⟨rfl, rfl⟩ | exact ⟨rfl, rfl, rfl⟩))) | (refine both_ways ?_ ?_) | (rw [wrap_i64 (by omega) (by omega)]) | (refine guardV_split (fun h => ?_) (fun h => ?_) <;> (try rw [h]) <;> (try simp at h) <;> (try (exfalso; omega))) | (refine L21.Table_c ?_) | (refine L21.lay_c h3 hLt ?_))
      exact ⟨Ext.refl _, rfl, hF (fun q => h4 q.2.1)⟩
  · refine tcalls_walk Try.f41 _ [.tmp 2] Try.func41 rfl rfl rfl mixed (Nat.le_of_ble_eq_true rfl) rfl fun hlen => ?_
    repeat' (first | (simp -dsimp only [↓reduceIte, go_sem, h3]) | (refine arr_intro fun _ => ?_) | (refine later_intro ⟨keeps_nil, ?_⟩) | (refine later_intro ⟨keeps_refl, ?_⟩) | (with_reducible refine keeps_go ?_ ?_; focus (first | (simp [keeps_cons, keeps_none, objs_app, objs_app0]; done) | (simp only [keeps_cons, keeps_none, objs_app0, objs_app, and_true]; first | rfl | exact ⟨rfl, rfl⟩ | exact ⟨rfl, rfl, rfl⟩))) | (with_reducible refine (And.intro (a := keeps _ _ _) ?_ ?_); focus (first | (simp [keeps_cons, keeps_none, objs_app, objs_app0]; done) | (simp only [keeps_cons, keeps_none, objs_app0, objs_app, and_true]; first | rfl | exact ⟨rfl, rfl⟩ | exact ⟨rfl, rfl, rfl⟩))) | (refine both_ways ?_ ?_) | (rw [wrap_i64 (by omega) (by omega)]) | (refine guardV_split (fun h => ?_) (fun h => ?_) <;> (try rw [h]) <;> (try simp at h) <;> (try (exfalso; omega))) | (refine L21.Table_c ?_))
    exact ⟨Ext.refl _, rfl, hF (fun q => h3 q.1)⟩
def longI (x : Leaf) (i : Int) : Int := min 32 (x.size - 32 * i)
theorem long_c {y : TL} {i : Nat} (hs : 0 ≤ y.x.size ∧ y.x.size ≤ 512) (hi : i ≤ 1000) (hK : K (.int .i64 (longI y.x i)) σ) : TCalls Try.prog 38 [L21.leafV y, .int .i64 i] σ K := by
  refine TCalls.drop ?_
  have w1 : IntKind.i64.wrap ((i : Int) * 32) = 32 * (i : Int) := by rw [wrap_i64 (by omega) (by omega)]; omega
  have w2 : IntKind.i64.wrap (y.x.size - 32 * (i : Int)) = y.x.size - 32 * (i : Int) := wrap_i64 (by omega) (by omega)
  refine tcalls_walk Try.f38 _ [.tmp 4] Try.func38 rfl rfl rfl mixed (Nat.le_of_ble_eq_true rfl) rfl fun hlen => ?_
  repeat' (first | (simp -dsimp only [↓reduceIte, go_sem, L21.leafV, w1, w2]) | (refine arr_intro fun _ => ?_) | (refine later_intro ⟨keeps_nil, ?_⟩) | (refine later_intro ⟨keeps_refl, ?_⟩) | (with_reducible refine keeps_go ?_ ?_; focus (first | (simp [keeps_cons, keeps_none, objs_app, objs_app0]; done) | (simp only [keeps_cons, keeps_none, objs_app0, objs_app, and_true]; first | rfl | exact ⟨rfl, rfl⟩ | exact ⟨rfl, rfl, rfl⟩))) | (with_reducible refine (And.intro (a := keeps _ _ _) ?_ ?_); focus (first | (simp [keeps_cons, keeps_none, objs_app, objs_app0]; done) | (simp only [keeps_cons, keeps_none, objs_app0, objs_app, and_true]; first | rfl | exact ⟨rfl, rfl⟩ | exact ⟨rfl, rfl, rfl⟩))) | (refine both_ways ?_ ?_) | (rw [wrap_i64 (by omega) (by omega)]) | (refine guardV_split (fun h => ?_) (fun h => ?_) <;> (try rw [h]) <;> (try simp at h) <;> (try (exfalso; omega))))
  exact ⟨Ext.app _ _, rfl, hK⟩
theorem bytes_c {y : TL} {i : Nat} (hs : 0 ≤ y.x.size ∧ y.x.size ≤ 512) (hi : i ≤ 1000) (hK : K (.int .i64 (longI y.x i)) σ) : TCalls Try.prog 42 [L21.leafV y, .int .i64 i] σ K := by
  refine TCalls.drop ?_
  have w1 : IntKind.i64.wrap (32 * (i : Int)) = 32 * (i : Int) := wrap_i64 (by omega) (by omega)
  have w2 : IntKind.i64.wrap (y.x.size - 32 * (i : Int)) = y.x.size - 32 * (i : Int) := wrap_i64 (by omega) (by omega)
  refine tcalls_walk Try.f42 _ [.tmp 4] Try.func42 rfl rfl rfl mixed (Nat.le_of_ble_eq_true rfl) rfl fun hlen => ?_
  repeat' (first | (simp -dsimp only [↓reduceIte, go_sem, L21.leafV, w1, w2]) | (refine arr_intro fun _ => ?_) | (refine later_intro ⟨keeps_nil, ?_⟩) | (refine later_intro ⟨keeps_refl, ?_⟩) | (with_reducible refine keeps_go ?_ ?_; focus (first | (simp [keeps_cons, keeps_none, objs_app, objs_app0]; done) | (simp only [keeps_cons, keeps_none, objs_app0, objs_app, and_true]; first | rfl | exact ⟨rfl, rfl⟩ | exact ⟨rfl, rfl, rfl⟩))) | (with_reducible refine (And.intro (a := keeps _ _ _) ?_ ?_); focus (first | (simp [keeps_cons, keeps_none, objs_app, objs_app0]; done) | (simp only [keeps_cons, keeps_none, objs_app0, objs_app, and_true]; first | rfl | exact ⟨rfl, rfl⟩ | exact ⟨rfl, rfl, rfl⟩))) | (refine both_ways ?_ ?_) | (rw [wrap_i64 (by omega) (by omega)]) | (refine guardV_split (fun h => ?_) (fun h => ?_) <;> (try rw [h]) <;> (try simp at h) <;> (try (exfalso; omega))))
  exact ⟨Ext.app _ _, rfl, hK⟩
def Touches (x : Leaf) (i : Nat) (t : Tch) : Prop := x.num = t.node ∧ 32 * (i : Int) < t.end_ ∧ t.from_ < 32 * i + longI x i
instance {x : Leaf} {i : Nat} {t : Tch} : Decidable (Touches x i t) := by unfold Touches; infer_instance
def Twin (x : Leaf) (i : Nat) (y : Leaf) : Prop := y.num = x.num ∧ y.kind = x.kind ∧ i < y.blocks.length ∧ longI y i = longI x i
instance {x y : Leaf} {i : Nat} : Decidable (Twin x i y) := by unfold Twin; infer_instance
def fromO (old : List Leaf) (x : Leaf) (i : Nat) : Int := match old.find? (fun y => decide (Twin x i y)) with
  | some y => y.blocks.getD i 0
  | none => -1
theorem fromO_at {x : Leaf} {i : Nat} : ∀ {old : List Leaf} {q : Nat} {w : Leaf}, old[q]? = some w → Twin x i w → (∀ m < q, ∀ v, old[m]? = some v → ¬ Twin x i v) → fromO old x i = w.blocks.getD i 0
  | [], q, w, h, _, _ => by simp at h
  | z :: old, 0, w, h, ht, _ => by
    simp at h; subst h
    unfold fromO
    rw [List.find?_cons, decide_eq_true ht]
  | z :: old, q + 1, w, h, ht, hn => by
    have hz := hn 0 (by omega) z rfl
    have ih := fromO_at (old := old) (q := q) (w := w) (by simpa using h) ht fun m hm v hv => hn (m + 1) (by omega) v (by simpa using hv)
    unfold fromO at ih ⊢
    rw [List.find?_cons, decide_eq_false hz]
    exact ih
def hadP (old : List Leaf) (x : Leaf) (i : Nat) (t : Tch) : Int := if Touches x i t then -1 else fromO old x i
def Sized (x : Leaf) : Prop := 0 ≤ x.size ∧ x.size ≤ 512
theorem longI_le {x : Leaf} {i : Nat} (h : Sized x) (hi : i ≤ 1000) : -40000 ≤ longI x i ∧ longI x i ≤ 32 := by
  obtain ⟨h1, h2⟩ := h
  unfold longI; omega
theorem had_c {old : List TL} {tk : Tk} {y : TL} {i : Nat} {t : Tch} (ho : ∀ z ∈ old, Sized z.x) (hs : Sized y.x) (hi : i ≤ 1000) (hl : old.length ≤ 1000)
    (hK : K (.int .i64 (hadP (old.map (·.x)) y.x i t)) σ) : TCalls Try.prog 37 [.slice tk (old.map L21.leafV), L21.leafV y, .int .i64 i, tchV t] σ K := by
  refine TCalls.drop ?_
  have hlg := longI_le hs hi
  have w1 : IntKind.i64.wrap ((i : Int) * 32) = 32 * (i : Int) := by rw [wrap_i64 (by omega) (by omega)]; omega
  have w2 : IntKind.i64.wrap (32 * (i : Int) + longI y.x i) = 32 * (i : Int) + longI y.x i := wrap_i64 (by omega) (by omega)
  have fin : ∀ (s' : AST) (v : Int), Ext σ s' → hadP (old.map (·.x)) y.x i t = v → Ext σ s' ∧ (AV.int .i64 v).noRef = true ∧ K (AV.int .i64 v).strip σ := fun s' v hx e => by subst e; exact ⟨hx, rfl, hK⟩
  refine tcalls_walk Try.f37 _ [.tmp 8] Try.func37 rfl rfl rfl mixed (Nat.le_of_ble_eq_true rfl) rfl fun hlen => ?_
  have g0 : ∀ p, cellAt (σ.app [.cells (L21.leafV y), .cells (tchV t)]) σ.objs.length p = (L21.leafV y).at p := cellAt_known objs_app0
  have g1 : ∀ p, cellAt (σ.app [.cells (L21.leafV y), .cells (tchV t)]) (σ.objs.length + 1) p = (tchV t).at p := cellAt_known (by simp [AST.app])
  by_cases ht : Touches y.x i t
  · have e : hadP (old.map (·.x)) y.x i t = -1 := by unfold hadP; rw [if_pos ht]
    obtain ⟨t1, t2, t3⟩ := ht
    have t1 : (y.x.num == t.node) = true := by simpa using t1
    repeat' (first | (simp -dsimp only [↓reduceIte, go_sem, w1, w2, t1, t2, t3, g0, g1, L21.leafV]) | (refine arr_intro fun _ => ?_) | (refine later_intro ⟨keeps_nil, ?_⟩) | (refine later_intro ⟨keeps_refl, ?_⟩) | (with_reducible refine keeps_go ?_ ?_; focus (first | (simp [keeps_cons, keeps_none, objs_app, objs_app0]; done) | (simp only [keeps_cons, keeps_none, objs_app0, objs_app, and_true]; first | rfl | exact ⟨rfl, rfl⟩ | exact ⟨rfl, rfl, rfl⟩))) | (with_reducible refine (And.intro (a := keeps _ _ _) ?_ ?_); focus (first | (simp [keeps_cons, keeps_none, objs_app, objs_app0]; done) | (simp only [keeps_cons, keeps_none, objs_app0, objs_app, and_true]; first | rfl | exact ⟨rfl, rfl⟩ | exact ⟨rfl, rfl, rfl⟩))) | (refine both_ways ?_ ?_) | (rw [wrap_i64 (by omega) (by omega)]) | (refine guardV_split (fun h => ?_) (fun h => ?_) <;> (try rw [h]) <;> (try simp at h) <;> (try (exfalso; omega))) | (with_reducible refine awp_drawS (id := 2) [0, 1, 2, 3, 4, 5, 6, 7, 8, 9, 10, 11, 12, 13, 14, 15, 16, 17, 18, 19, 20] (by kernel_rfl) ?_) | (refine long_c hs hi ?_))
    exact fin _ _ (Ext.app _ _) e
  · have e0 : hadP (old.map (·.x)) y.x i t = fromO (old.map (·.x)) y.x i := by unfold hadP; rw [if_neg ht]
    have hcs : ((y.x.num == t.node) = false ∧ True ∧ True) ∨ ((y.x.num == t.node) = true ∧ ¬ 32 * (i : Int) < t.end_ ∧ True) ∨ ((y.x.num == t.node) = true ∧ 32 * (i : Int) < t.end_ ∧ ¬ t.from_ < 32 * i + longI y.x i) := by
      by_cases h1 : y.x.num = t.node
      · by_cases h2 : 32 * (i : Int) < t.end_
        · exact .inr (.inr ⟨by simpa using h1, h2, fun h3 => ht ⟨h1, h2, h3⟩⟩)
        · exact .inr (.inl ⟨by simpa using h1, h2, trivial⟩)
      · exact .inl ⟨by simpa using h1, trivial, trivial⟩
    have hx1 : Ext σ (σ.app [.cells (L21.leafV y), .cells (tchV t)]) := Ext.app _ _
    have k0 : (σ.app [.cells (L21.leafV y), .cells (tchV t)]).objs[σ.objs.length]? = some (.cells (L21.leafV y)) := objs_app0
    rcases hcs with ⟨t1, t2, t3⟩ | ⟨t1, t2, t3⟩ | ⟨t1, t2, t3⟩
    all_goals
      repeat' (first | (simp -dsimp only [↓reduceIte, go_sem, w1, w2, t1, t2, t3, g0, g1, L21.leafV]) | (refine arr_intro fun _ => ?_) | (refine later_intro ⟨keeps_nil, ?_⟩) | (refine later_intro ⟨keeps_refl, ?_⟩) | (with_reducible refine keeps_go ?_ ?_; focus (first | (simp [keeps_cons, keeps_none, objs_app, objs_app0]; done) | (simp only [keeps_cons, keeps_none, objs_app0, objs_app, and_true]; first | rfl | exact ⟨rfl, rfl⟩ | exact ⟨rfl, rfl, rfl⟩))) | (with_reducible refine (And.intro (a := keeps _ _ _) ?_ ?_); focus (first | (simp [keeps_cons, keeps_none, objs_app, objs_app0]; done) | (simp only [keeps_cons, keeps_none, objs_app0, objs_app, and_true]; first | rfl | exact ⟨rfl, rfl⟩ | exact ⟨rfl, rfl, rfl⟩))) | (refine both_ways ?_ ?_) | (rw [wrap_i64 (by omega) (by omega)]) | (refine guardV_split (fun h => ?_) (fun h => ?_) <;> (try rw [h]) <;> (try simp at h) <;> (try (exfalso; omega))) | (with_reducible refine awp_drawS (id := 2) [0, 1, 2, 3, 4, 5, 6, 7, 8, 9, 10, 11, 12, 13, 14, 15, 16, 17, 18, 19, 20] (by kernel_rfl) ?_) | (refine long_c hs hi ?_))
      change awp _ _ _ _ (σ.app [.cells (L21.leafV y), .cells (tchV t)])
      generalize σ.app [.cells (L21.leafV y), .cells (tchV t)] = s1 at hx1 k0 ⊢
      clear g0 g1
      refine awp_rounds (fun (q : Nat) τ s' => q ≤ old.length ∧ Ext s1 s' ∧ (∀ m < q, ∀ w, old[m]? = some w → ¬ Twin y.x i w.x) ∧ τ 2 = .int .i64 i ∧ τ 5 = .ptr (some (σ.objs.length, [])) ∧ τ 35 = .slice tk (old.map L21.leafV) ∧ τ 36 = .int .i64 old.length ∧ τ 37 = .int .i64 q) (fun q => old.length - q) 0 ?_ ?_
      · refine ⟨by omega, Ext.refl _, fun m hm => absurd hm (by omega), ?_, ?_, ?_, ?_, ?_⟩ <;> (try simp only [go_sem]) <;> (try rfl)
      · rintro q τ s' ⟨hq, hx, hno, u2, u5, u35, u36, u37⟩
        have k1 := ext_knownV hx k0
        have hl1 := (List.getElem?_eq_some_iff.1 k1).1
        by_cases hqb : q < old.length
        · have hlt1 : (q : Int) < old.length := by omega
          have hyq : old[q]? = some old[q] := List.getElem?_eq_getElem hqb
          have hsw := ho _ (List.getElem_mem hqb)
          generalize old[q] = w at hyq hsw
          have w3 : IntKind.i64.wrap ((q : Int) + 1) = (q : Int) + 1 := wrap_i64 (by omega) (by omega)
          have a0 : ∀ v p, cellAt (s'.app [.cells v]) σ.objs.length p = (L21.leafV y).at p := fun v => cellAt_known (ext_knownV (Ext.app _ _) k1)
          repeat' (first | (simp -dsimp only [↓reduceIte, go_sem, u2, u5, u35, u36, u37, w3, hlt1, a0, L21.leafV]) | (refine arr_intro fun _ => ?_) | (refine later_intro ⟨keeps_nil, ?_⟩) | (refine later_intro ⟨keeps_refl, ?_⟩) | (with_reducible refine keeps_go ?_ ?_; focus (first | (simp [keeps_cons, keeps_none, objs_app, objs_app0]; done) | (simp only [keeps_cons, keeps_none, objs_app0, objs_app, and_true]; first | rfl | exact ⟨rfl, rfl⟩ | exact ⟨rfl, rfl, rfl⟩))) | (with_reducible refine (And.intro (a := keeps _ _ _) ?_ ?_); focus (first | (simp [keeps_cons, keeps_none, objs_app, objs_app0]; done) | (simp only [keeps_cons, keeps_none, objs_app0, objs_app, and_true]; first | rfl | exact ⟨rfl, rfl⟩ | exact ⟨rfl, rfl, rfl⟩))) | (refine both_ways ?_ ?_) | (rw [wrap_i64 (by omega) (by omega)]) | (refine guardV_split (fun h => ?_) (fun h => ?_) <;> (try rw [h]) <;> (try simp at h) <;> (try (exfalso; omega))) | (refine nth_get hyq ?_) | (with_reducible refine awp_drawS (id := 7) [0, 1, 2, 3, 4, 5, 6, 7, 8, 9, 10, 11, 12, 13, 14, 15, 16, 17, 18, 19, 20, 21, 23, 24, 22, 25, 26, 27] (by kernel_rfl) ?_) | (refine long_c hsw hi ?_) | (refine long_c hs hi ?_))
          case refine_1 =>
            have hTw : Twin y.x i w.x := ⟨‹_›, ‹_›, ‹_›, ‹_›⟩
            have hbk : w.x.blocks[i]? = some w.x.blocks[i] := List.getElem?_eq_getElem hTw.2.2.1
            have hv : w.x.blocks.getD i 0 = w.x.blocks[i] := by rw [List.getD_eq_getElem?_getD, hbk]; rfl
            generalize w.x.blocks[i] = b at hbk hv
            repeat' (first | (simp -dsimp only [↓reduceIte, go_sem]) | (refine arr_intro fun _ => ?_) | (refine later_intro ⟨keeps_nil, ?_⟩) | (refine later_intro ⟨keeps_refl, ?_⟩) | (with_reducible refine keeps_go ?_ ?_; focus (first | (simp [keeps_cons, keeps_none, objs_app, objs_app0]; done) | (simp only [keeps_cons, keeps_none, objs_app0, objs_app, and_true]; first | rfl | exact ⟨rfl, rfl⟩ | exact ⟨rfl, rfl, rfl⟩))) | (with_reducible refine (And.intro (a := keeps _ _ _) ?_ ?_); focus (first | (simp [keeps_cons, keeps_none, objs_app, objs_app0]; done) | (simp only [keeps_cons, keeps_none, objs_app0, objs_app, and_true]; first | rfl | exact ⟨rfl, rfl⟩ | exact ⟨rfl, rfl, rfl⟩))) | (refine both_ways ?_ ?_) | (rw [wrap_i64 (by omega) (by omega)]) | (refine guardV_split (fun h => ?_) (fun h => ?_) <;> (try rw [h]) <;> (try simp at h) <;> (try (exfalso; omega))) | (refine nth_get hbk ?_))
            exact fin _ _ (hx1.trans (hx.trans (Ext.app _ _))) (by rw [e0, fromO_at (by rw [List.getElem?_map, hyq]; rfl) hTw (fun m hm v hv' => by rw [List.getElem?_map, Option.map_eq_some_iff] at hv'; obtain ⟨v', hv', rfl⟩ := hv'; exact hno m hm v' hv'), hv])
          all_goals
            (refine later_intro ⟨q + 1, by omega, ?_⟩; (repeat' with_reducible apply And.intro); all_goals (first | omega | (simp only [go_sem, u2, u5, u35, u36, u37, w3]; done) | rfl | assumption | (simp only [go_sem, u2, u5, u35, u36, u37, w3]; rfl) | skip))
            all_goals first
              | exact hx.trans (Ext.app _ _)
              | (intro m hm v hv
                 by_cases e : m = q
                 · subst e; rw [hyq] at hv; cases hv
                   rintro ⟨z1, z2, z3, z4⟩
                   first | contradiction | omega
                 · exact hno m (by omega) v hv)
        · obtain rfl : q = old.length := by omega
          have hlt1 : ¬ ((old.length : Nat) : Int) < old.length := by omega
          repeat' (first | (simp -dsimp only [↓reduceIte, go_sem, u2, u5, u35, u36, u37, hlt1]) | (refine arr_intro fun _ => ?_) | (refine later_intro ⟨keeps_nil, ?_⟩) | (refine later_intro ⟨keeps_refl, ?_⟩) | (with_reducible refine keeps_go ?_ ?_; focus (first | (simp [keeps_cons, keeps_none, objs_app, objs_app0]; done) | (simp only [keeps_cons, keeps_none, objs_app0, objs_app, and_true]; first | rfl | exact ⟨rfl, rfl⟩ | exact ⟨rfl, rfl, rfl⟩))) | (with_reducible refine (And.intro (a := keeps _ _ _) ?_ ?_); focus (first | (simp [keeps_cons, keeps_none, objs_app, objs_app0]; done) | (simp only [keeps_cons, keeps_none, objs_app0, objs_app, and_true]; first | rfl | exact ⟨rfl, rfl⟩ | exact ⟨rfl, rfl, rfl⟩))) | (refine both_ways ?_ ?_) | (rw [wrap_i64 (by omega) (by omega)]) | (refine guardV_split (fun h => ?_) (fun h => ?_) <;> (try rw [h]) <;> (try simp at h) <;> (try (exfalso; omega))))
          refine fin _ _ (hx1.trans hx) ?_
          rw [e0]
          unfold fromO
          rw [List.find?_eq_none.2]
          intro z hz
          obtain ⟨w, hw, rfl⟩ := List.mem_map.1 hz
          obtain ⟨m, hm⟩ := List.mem_iff_getElem?.1 hw
          simpa using hno m (List.getElem?_eq_some_iff.1 hm).1 w hm
end
attribute [local go_sem] sizes_shp zt_shp
def topL (bs : List Int) (n : Int) : Int := bs.foldl (fun n b => max n (b + 1)) n
theorem topL_app {a b : List Int} {n : Int} : topL (a ++ b) n = topL b (topL a n) := List.foldl_append
theorem topL_ge : ∀ (bs : List Int) (n : Int), n ≤ topL bs n
  | [], n => Int.le_refl _
  | b :: bs, n => by have := topL_ge bs (max n (b + 1)); unfold topL at this ⊢; rw [List.foldl_cons]; omega
theorem topL_max : ∀ (bs : List Int) (n m : Int), topL bs (max n m) = max n (topL bs m)
  | [], n, m => rfl
  | b :: bs, n, m => by
    have := topL_max bs n (max m (b + 1))
    unfold topL at this ⊢
    rw [List.foldl_cons, List.foldl_cons, ← this]
    congr 1; omega
theorem topL_le : ∀ {bs : List Int} {n c : Int}, n ≤ c → (∀ b ∈ bs, b + 1 ≤ c) → topL bs n ≤ c
  | [], n, c, h, _ => h
  | b :: bs, n, c, h, hb => by
    have h1 := hb b (List.mem_cons_self ..)
    exact topL_le (bs := bs) (n := max n (b + 1)) (by omega) fun x hx => hb x (List.mem_cons_of_mem _ hx)
theorem topL_comm {a b : List Int} : topL (a ++ b) 0 = topL (b ++ a) 0 := by
  rw [topL_app, topL_app]
  have h1 := topL_max b (topL a 0) 0
  have h2 := topL_max a (topL b 0) 0
  have e1 : max (topL a 0) 0 = topL a 0 := by have := topL_ge a 0; omega
  have e2 : max (topL b 0) 0 = topL b 0 := by have := topL_ge b 0; omega
  rw [e1] at h1; rw [e2] at h2
  rw [h1, h2]; omega
def blks (l : List TL) : List Int := l.flatMap fun y => y.x.blocks
theorem fits22 {v : AV} : fits Try.prog 22 v = (v.isAgg = false ∧ v.size = 1) := fits_leaf (by kernel_rfl) (by kernel_rfl)
theorem zt22 : ZeroOf Try.prog 22 (.slice .full []) = True := eq_true ⟨_, _, rfl, rfl, rfl, rfl, rfl⟩
theorem E146 : ElemT Try.prog 146 22 1 24 := ⟨rfl, by kernel_rfl, by kernel_rfl, ⟨_, of_eq_true zt22⟩, by decide⟩
def tabV (p : Tk × List TL) : AV := .slice p.1 (p.2.map L21.leafV)
attribute [local go_sem] Try.underlying146 fits22 zt22
section
variable {σ : AST} {K : AV → AST → Prop}
theorem top_c {ts : List (Tk × List TL)} {tk : Tk} (hb : ∀ p ∈ ts, ∀ y ∈ p.2, ∀ b ∈ y.x.blocks, 0 ≤ b ∧ b ≤ 1099511627776)
    (hK : K (.int .i64 (topL (ts.flatMap fun p => blks p.2) 0)) σ) : TCalls Try.prog 39 [.slice tk (ts.map tabV)] σ K := by
  refine TCalls.drop ?_
  have hmax : (maxL : Nat) ≤ 9223372036854775807 := by decide
  refine tcalls_walk Try.f39 _ [.tmp 2] Try.func39 rfl rfl rfl mixed (Nat.le_of_ble_eq_true rfl) rfl fun hlen => ?_
  repeat' (first | (simp -dsimp only [↓reduceIte, go_sem]) | (refine arr_intro fun _ => ?_) | (refine later_intro ⟨keeps_nil, ?_⟩) | (refine later_intro ⟨keeps_refl, ?_⟩) | (with_reducible refine keeps_go ?_ ?_; focus (first | (simp [keeps_cons, keeps_none, objs_app, objs_app0]; done) | (simp only [keeps_cons, keeps_none, objs_app0, objs_app, and_true]; first | rfl | exact ⟨rfl, rfl⟩ | exact ⟨rfl, rfl, rfl⟩))) | (with_reducible refine (And.intro (a := keeps _ _ _) ?_ ?_); focus (first | (simp [keeps_cons, keeps_none, objs_app, objs_app0]; done) | (simp only [keeps_cons, keeps_none, objs_app0, objs_app, and_true]; first | rfl | exact ⟨rfl, rfl⟩ | exact ⟨rfl, rfl, rfl⟩))) | (refine both_ways ?_ ?_) | (rw [wrap_i64 (by omega) (by omega)]) | (refine guardV_split (fun h => ?_) (fun h => ?_) <;> (try rw [h]) <;> (try simp at h) <;> (try (exfalso; omega))))
  have hll : ts.length ≤ 9223372036854775807 := by omega
  refine awp_rounds (fun (i : Nat) τ s => i ≤ ts.length ∧ Ext σ s ∧ τ 3 = .int .i64 (topL ((ts.take i).flatMap fun p => blks p.2) 0) ∧ τ 10 = .slice tk (ts.map tabV) ∧ τ 11 = .int .i64 ts.length ∧ τ 12 = .int .i64 i) (fun i => ts.length - i) 0 ?_ ?_
  · refine ⟨by omega, Ext.refl _, ?_, ?_, ?_, ?_⟩ <;> (try simp only [go_sem]) <;> (try rfl)
  · rintro i τ s ⟨hi, hx, t3, t10, t11, t12⟩
    by_cases hib : i < ts.length
    · have hlt1 : (i : Int) < ts.length := by omega
      have hpi : ts[i]? = some ts[i] := List.getElem?_eq_getElem hib
      have hbp := hb _ (List.getElem_mem hib)
      generalize ts[i] = p at hpi hbp
      have w1 : IntKind.i64.wrap ((i : Int) + 1) = (i : Int) + 1 := wrap_i64 (by omega) (by omega)
      generalize hn0 : topL ((ts.take i).flatMap fun p => blks p.2) 0 = n0 at t3
      have e1 : topL ((ts.take (i + 1)).flatMap fun p => blks p.2) 0 = topL (blks p.2) n0 := by rw [List.take_add_one, hpi, List.flatMap_append, topL_app, hn0]; simp
      have hm0 : n0 ≤ 1099511627777 := by
        rw [← hn0]
        refine topL_le (by omega) fun b hb' => ?_
        obtain ⟨p', hp', hb'⟩ := List.mem_flatMap.1 hb'
        obtain ⟨y, hy, hb'⟩ := List.mem_flatMap.1 hb'
        have := hb p' (List.mem_of_mem_take hp') y hy b hb'
        omega
      have hg0 : 0 ≤ n0 := by rw [← hn0]; exact topL_ge _ _
      repeat' (first | (simp -dsimp only [↓reduceIte, go_sem, t3, t10, t11, t12, hlt1, tabV]) | (refine arr_intro fun _ => ?_) | (refine later_intro ⟨keeps_nil, ?_⟩) | (refine later_intro ⟨keeps_refl, ?_⟩) | (with_reducible refine keeps_go ?_ ?_; focus (first | (simp [keeps_cons, keeps_none, objs_app, objs_app0]; done) | (simp only [keeps_cons, keeps_none, objs_app0, objs_app, and_true]; first | rfl | exact ⟨rfl, rfl⟩ | exact ⟨rfl, rfl, rfl⟩))) | (with_reducible refine (And.intro (a := keeps _ _ _) ?_ ?_); focus (first | (simp [keeps_cons, keeps_none, objs_app, objs_app0]; done) | (simp only [keeps_cons, keeps_none, objs_app0, objs_app, and_true]; first | rfl | exact ⟨rfl, rfl⟩ | exact ⟨rfl, rfl, rfl⟩))) | (refine both_ways ?_ ?_) | (rw [wrap_i64 (by omega) (by omega)]) | (refine guardV_split (fun h => ?_) (fun h => ?_) <;> (try rw [h]) <;> (try simp at h) <;> (try (exfalso; omega))) | (refine nth_get hpi ?_))
      have hpl : p.2.length ≤ 9223372036854775807 := by omega
      refine awp_rounds (fun (q : Nat) τ s => q ≤ p.2.length ∧ Ext σ s ∧ τ 3 = .int .i64 (topL (blks (p.2.take q)) n0) ∧ τ 10 = .slice tk (ts.map tabV) ∧ τ 11 = .int .i64 ts.length ∧ τ 12 = .int .i64 i ∧ τ 16 = .slice p.1 (p.2.map L21.leafV) ∧ τ 17 = .int .i64 p.2.length ∧ τ 18 = .int .i64 q) (fun q => p.2.length - q) 0 ?_ ?_
      · refine ⟨by omega, hx, ?_, ?_, ?_, ?_, ?_, ?_, ?_⟩ <;> (try simp only [go_sem, t3, t10, t11, t12]) <;> (try rfl)
      · clear t3 t10 t11 t12 hx
        rintro q τ s ⟨hq, hx, t3, t10, t11, t12, t16, t17, t18⟩
        by_cases hqb : q < p.2.length
        · have hlt2 : (q : Int) < p.2.length := by omega
          have hyq : p.2[q]? = some p.2[q] := List.getElem?_eq_getElem hqb
          have hby := hbp _ (List.getElem_mem hqb)
          generalize p.2[q] = y at hyq hby
          have w2 : IntKind.i64.wrap ((q : Int) + 1) = (q : Int) + 1 := wrap_i64 (by omega) (by omega)
          generalize hn1 : topL (blks (p.2.take q)) n0 = n1 at t3
          have e2 : topL (blks (p.2.take (q + 1))) n0 = topL y.x.blocks n1 := by
            unfold blks at hn1 ⊢
            rw [List.take_add_one, hyq, List.flatMap_append, topL_app, hn1]; simp
          have hm1 : n1 ≤ 1099511627777 := by
            rw [← hn1]
            refine topL_le hm0 fun b hb' => ?_
            obtain ⟨y, hy, hb'⟩ := List.mem_flatMap.1 hb'
            have := hbp y (List.mem_of_mem_take hy) b hb'
            omega
          have hg1 : 0 ≤ n1 := by rw [← hn1]; exact Int.le_trans hg0 (topL_ge _ _)
          repeat' (first | (simp -dsimp only [↓reduceIte, go_sem, t3, t10, t11, t12, t16, t17, t18, hlt2, L21.leafV]) | (refine arr_intro fun _ => ?_) | (refine later_intro ⟨keeps_nil, ?_⟩) | (refine later_intro ⟨keeps_refl, ?_⟩) | (with_reducible refine keeps_go ?_ ?_; focus (first | (simp [keeps_cons, keeps_none, objs_app, objs_app0]; done) | (simp only [keeps_cons, keeps_none, objs_app0, objs_app, and_true]; first | rfl | exact ⟨rfl, rfl⟩ | exact ⟨rfl, rfl, rfl⟩))) | (with_reducible refine (And.intro (a := keeps _ _ _) ?_ ?_); focus (first | (simp [keeps_cons, keeps_none, objs_app, objs_app0]; done) | (simp only [keeps_cons, keeps_none, objs_app0, objs_app, and_true]; first | rfl | exact ⟨rfl, rfl⟩ | exact ⟨rfl, rfl, rfl⟩))) | (refine both_ways ?_ ?_) | (rw [wrap_i64 (by omega) (by omega)]) | (refine guardV_split (fun h => ?_) (fun h => ?_) <;> (try rw [h]) <;> (try simp at h) <;> (try (exfalso; omega))) | (refine nth_get hyq ?_))
          have hyl : y.x.blocks.length ≤ 9223372036854775807 := by omega
          have hx2 : Ext σ (s.app [.cells (L21.leafV y)]) := hx.trans (Ext.app _ _)
          have k0 : (s.app [.cells (L21.leafV y)]).objs[s.objs.length]? = some (.cells (L21.leafV y)) := objs_app0
          change awp _ _ _ _ (s.app [.cells (L21.leafV y)])
          generalize s.objs.length = j at *
          generalize s.app [.cells (L21.leafV y)] = s2 at hx2 k0 ⊢
          refine awp_rounds (fun (k : Nat) τ s' => k ≤ y.x.blocks.length ∧ s' = s2 ∧ τ 3 = .int .i64 (topL (y.x.blocks.take k) n1) ∧ τ 10 = .slice tk (ts.map tabV) ∧ τ 11 = .int .i64 ts.length ∧ τ 12 = .int .i64 i ∧ τ 16 = .slice p.1 (p.2.map L21.leafV) ∧ τ 17 = .int .i64 p.2.length ∧ τ 18 = .int .i64 q ∧ τ 23 = .slice y.t1 (y.x.blocks.map (AV.int .i64)) ∧ τ 24 = .int .i64 y.x.blocks.length ∧ τ 25 = .int .i64 k) (fun k => y.x.blocks.length - k) 0 ?_ ?_
          · refine ⟨by omega, rfl, ?_, ?_, ?_, ?_, ?_, ?_, ?_, ?_, ?_, ?_⟩ <;> (try simp only [go_sem, t3, t10, t11, t12, t16, t17, t18]) <;> (try rfl)
          · clear t3 t10 t11 t12 t16 t17 t18
            rintro k τ s3 ⟨hk, rfl, t3, t10, t11, t12, t16, t17, t18, t23, t24, t25⟩
            by_cases hkb : k < y.x.blocks.length
            · have hlt3 : (k : Int) < y.x.blocks.length := by omega
              have hbk : y.x.blocks[k]? = some y.x.blocks[k] := List.getElem?_eq_getElem hkb
              have hbb := hby _ (List.getElem_mem hkb)
              generalize y.x.blocks[k] = b at hbk hbb
              have w3 : IntKind.i64.wrap ((k : Int) + 1) = (k : Int) + 1 := wrap_i64 (by omega) (by omega)
              have w4 : IntKind.i64.wrap (b + 1) = b + 1 := wrap_i64 (by omega) (by omega)
              have e3 : topL (y.x.blocks.take (k + 1)) n1 = max (topL (y.x.blocks.take k) n1) (b + 1) := by
                rw [List.take_add_one, hbk, topL_app]; rfl
              repeat' (first | (simp -dsimp only [↓reduceIte, go_sem, t3, t10, t11, t12, t16, t17, t18, t23, t24, t25, hlt3, w3, w4]) | (refine arr_intro fun _ => ?_) | (refine later_intro ⟨keeps_nil, ?_⟩) | (refine later_intro ⟨keeps_refl, ?_⟩) | (with_reducible refine keeps_go ?_ ?_; focus (first | (simp [keeps_cons, keeps_none, objs_app, objs_app0]; done) | (simp only [keeps_cons, keeps_none, objs_app0, objs_app, and_true]; first | rfl | exact ⟨rfl, rfl⟩ | exact ⟨rfl, rfl, rfl⟩))) | (with_reducible refine (And.intro (a := keeps _ _ _) ?_ ?_); focus (first | (simp [keeps_cons, keeps_none, objs_app, objs_app0]; done) | (simp only [keeps_cons, keeps_none, objs_app0, objs_app, and_true]; first | rfl | exact ⟨rfl, rfl⟩ | exact ⟨rfl, rfl, rfl⟩))) | (refine both_ways ?_ ?_) | (rw [wrap_i64 (by omega) (by omega)]) | (refine guardV_split (fun h => ?_) (fun h => ?_) <;> (try rw [h]) <;> (try simp at h) <;> (try (exfalso; omega))) | (refine nth_get hbk ?_))
              ((first | refine later_intro ⟨k + 1, by omega, ?_⟩ | refine ⟨k + 1, by omega, ?_⟩); (repeat' with_reducible apply And.intro); all_goals (first | omega | (simp only [go_sem, e3, t3, t10, t11, t12, t16, t17, t18, t23, t24, t25, w3]; done) | rfl | assumption | (simp only [go_sem, e3, t3, t10, t11, t12, t16, t17, t18, t23, t24, t25, w3]; rfl) | skip))
            · obtain rfl : k = y.x.blocks.length := by omega
              have hlt3 : ¬ ((y.x.blocks.length : Nat) : Int) < y.x.blocks.length := by omega
              rw [List.take_length] at t3
              repeat' (first | (simp -dsimp only [↓reduceIte, go_sem, t3, t10, t11, t12, t16, t17, t18, t23, t24, t25, hlt3, w2]) | (refine arr_intro fun _ => ?_) | (refine later_intro ⟨keeps_nil, ?_⟩) | (refine later_intro ⟨keeps_refl, ?_⟩) | (with_reducible refine keeps_go ?_ ?_; focus (first | (simp [keeps_cons, keeps_none, objs_app, objs_app0]; done) | (simp only [keeps_cons, keeps_none, objs_app0, objs_app, and_true]; first | rfl | exact ⟨rfl, rfl⟩ | exact ⟨rfl, rfl, rfl⟩))) | (with_reducible refine (And.intro (a := keeps _ _ _) ?_ ?_); focus (first | (simp [keeps_cons, keeps_none, objs_app, objs_app0]; done) | (simp only [keeps_cons, keeps_none, objs_app0, objs_app, and_true]; first | rfl | exact ⟨rfl, rfl⟩ | exact ⟨rfl, rfl, rfl⟩))) | (refine both_ways ?_ ?_) | (rw [wrap_i64 (by omega) (by omega)]) | (refine guardV_split (fun h => ?_) (fun h => ?_) <;> (try rw [h]) <;> (try simp at h) <;> (try (exfalso; omega))))
              ((first | refine later_intro ⟨q + 1, by omega, ?_⟩ | refine ⟨q + 1, by omega, ?_⟩); (repeat' with_reducible apply And.intro); all_goals (first | omega | (simp only [go_sem, e2, t3, t10, t11, t12, t16, t17, t18, w2]; done) | rfl | assumption | (simp only [go_sem, e2, t3, t10, t11, t12, t16, t17, t18, w2]; rfl) | skip))
              all_goals exact hx2
        · obtain rfl : q = p.2.length := by omega
          have hlt2 : ¬ ((p.2.length : Nat) : Int) < p.2.length := by omega
          rw [List.take_length] at t3
          repeat' (first | (simp -dsimp only [↓reduceIte, go_sem, t3, t10, t11, t12, t16, t17, t18, hlt2, w1]) | (refine arr_intro fun _ => ?_) | (refine later_intro ⟨keeps_nil, ?_⟩) | (refine later_intro ⟨keeps_refl, ?_⟩) | (with_reducible refine keeps_go ?_ ?_; focus (first | (simp [keeps_cons, keeps_none, objs_app, objs_app0]; done) | (simp only [keeps_cons, keeps_none, objs_app0, objs_app, and_true]; first | rfl | exact ⟨rfl, rfl⟩ | exact ⟨rfl, rfl, rfl⟩))) | (with_reducible refine (And.intro (a := keeps _ _ _) ?_ ?_); focus (first | (simp [keeps_cons, keeps_none, objs_app, objs_app0]; done) | (simp only [keeps_cons, keeps_none, objs_app0, objs_app, and_true]; first | rfl | exact ⟨rfl, rfl⟩ | exact ⟨rfl, rfl, rfl⟩))) | (refine both_ways ?_ ?_) | (rw [wrap_i64 (by omega) (by omega)]) | (refine guardV_split (fun h => ?_) (fun h => ?_) <;> (try rw [h]) <;> (try simp at h) <;> (try (exfalso; omega))))
          ((first | refine later_intro ⟨i + 1, by omega, ?_⟩ | refine ⟨i + 1, by omega, ?_⟩); (repeat' with_reducible apply And.intro); all_goals (first | omega | (simp only [go_sem, e1, t3, t10, t11, t12, w1]; done) | rfl | assumption | (simp only [go_sem, e1, t3, t10, t11, t12, w1]; rfl) | skip))
          all_goals exact hx
    · obtain rfl : i = ts.length := by omega
      have hlt1 : ¬ ((ts.length : Nat) : Int) < ts.length := by omega
      rw [List.take_length] at t3
      repeat' (first | (simp -dsimp only [↓reduceIte, go_sem, t3, t10, t11, t12, hlt1]) | (refine arr_intro fun _ => ?_) | (refine later_intro ⟨keeps_nil, ?_⟩) | (refine later_intro ⟨keeps_refl, ?_⟩) | (with_reducible refine keeps_go ?_ ?_; focus (first | (simp [keeps_cons, keeps_none, objs_app, objs_app0]; done) | (simp only [keeps_cons, keeps_none, objs_app0, objs_app, and_true]; first | rfl | exact ⟨rfl, rfl⟩ | exact ⟨rfl, rfl, rfl⟩))) | (with_reducible refine (And.intro (a := keeps _ _ _) ?_ ?_); focus (first | (simp [keeps_cons, keeps_none, objs_app, objs_app0]; done) | (simp only [keeps_cons, keeps_none, objs_app0, objs_app, and_true]; first | rfl | exact ⟨rfl, rfl⟩ | exact ⟨rfl, rfl, rfl⟩))) | (refine both_ways ?_ ?_) | (rw [wrap_i64 (by omega) (by omega)]) | (refine guardV_split (fun h => ?_) (fun h => ?_) <;> (try rw [h]) <;> (try simp at h) <;> (try (exfalso; omega))))
      exact ⟨hx, rfl, hK⟩
end
theorem zt58' : ZeroOf Try.prog 58 (.agg (shpPs shp0)) := of_eq_true zt_shp
theorem E29s : ElemT Try.prog 29 58 2 16 := ⟨rfl, by kernel_rfl, by kernel_rfl, ⟨_, zt58'⟩, by decide⟩
theorem size_shps {l : List Shp} : ∀ v ∈ l.map shpV, v.size = 2 := by
  intro v hv; obtain ⟨x, _, rfl⟩ := List.mem_map.1 hv; simp only [AV.size, sizes_shp]
theorem append_shp {a : List Shp} {y : Shp} {tk tk2 : Tk} {σ : AST} {K : AV → AST → Prop} (hca : canApp σ tk a.length 2) (hl : a.length ≤ 9000) (hK : K (.slice (growT σ tk) ((a ++ [y]).map shpV)) (growS σ tk (a.length + 1) 2)) :
    appendW Try.prog ⟨[29, 29]⟩ (.slice tk (a.map shpV)) (.slice tk2 [shpV y]) σ K := by
  refine append_slice E29s rfl (by rw [List.length_map]; exact hca) (by intro v hv; simp at hv; subst hv; simp only [AV.size, sizes_shp]) size_shps (by simp; omega) (by simp [maxL]; omega) ?_
  simpa using hK
def putS (me k n : Int) : Shp := shpOf 4 [.num me, .num k, .txt n, .sgn]
def subS (me n root : Int) : Shp := shpOf 1 [.num me, .num n, .num 1, .num me, .txt (nlen root), .sgn, .sgn]
section
variable (me : Int) (old : List Leaf) (t : Tch)
def chB (x : Leaf) (st : List Shp × Int) : Nat → Option (List Shp × Int)
  | 0 => some st
  | k + 1 => (chB x st k).bind fun st' =>
    let b := x.blocks.getD k 0
    let h := hadP old x k t
    if h = b then some st' else if h = -1 then some (st'.1 ++ [putS me b (longI x k)], b + 1) else none
def chL (l : List Leaf) : Nat → Option (List Shp × Int)
  | 0 => some ([], -1)
  | i + 1 => (chL l i).bind fun st => match l[i]? with
    | some x => chB me old t x st x.blocks.length
    | none => some st
end
def blkL (l : List Leaf) : List Int := l.flatMap fun x => x.blocks
noncomputable def chE (me n : Int) (old l : List Leaf) (st : List Shp × Int) : List Shp × Int :=
  let r := if st.2 < 0 then topL (blkL old ++ blkL l) 0 else st.2
  (st.1 ++ [putS me r (byt l).length, subS me n r], 0)
noncomputable def chg (me n : Int) (old l : List Leaf) (t : Tch) : List Shp × Int :=
  if TabOk old ∧ TabOk l then match chL me old t l l.length with
    | some st => chE me n old l st
    | none => ([], 2)
  else ([], 2)
theorem chB_none {me : Int} {old : List Leaf} {t : Tch} {x : Leaf} {st : List Shp × Int} {k : Nat} (h : chB me old t x st k = none) : ∀ d, chB me old t x st (k + d) = none
  | 0 => h
  | d + 1 => by rw [← Nat.add_assoc, chB, chB_none h d]; rfl
theorem chL_none {me : Int} {old : List Leaf} {t : Tch} {l : List Leaf} {k : Nat} (h : chL me old t l k = none) : ∀ d, chL me old t l (k + d) = none
  | 0 => h
  | d + 1 => by rw [← Nat.add_assoc, chL, chL_none h d]; rfl
theorem chg_bad {me n : Int} {old l : List Leaf} {t : Tch} {i k : Nat} {x : Leaf} {st : List Shp × Int} (hs : chL me old t l i = some st) (hx : l[i]? = some x) (hk : k ≤ x.blocks.length) (hb : chB me old t x st k = none) : chg me n old l t = ([], 2) := by
  have h1 : chB me old t x st x.blocks.length = none := by have := chB_none hb (x.blocks.length - k); rwa [show k + (x.blocks.length - k) = x.blocks.length by omega] at this
  have hi := (List.getElem?_eq_some_iff.1 hx).1
  have h2 : chL me old t l (i + 1) = none := by rw [chL, hs, hx]; exact h1
  have h3 : chL me old t l l.length = none := by have := chL_none h2 (l.length - (i + 1)); rwa [show i + 1 + (l.length - (i + 1)) = l.length by omega] at this
  unfold chg
  rw [h3]
  split <;> rfl
theorem chB_len {me : Int} {old : List Leaf} {t : Tch} {x : Leaf} {st st' : List Shp × Int} : ∀ {k : Nat}, chB me old t x st k = some st' → st'.1.length ≤ st.1.length + k
  | 0, h => by simp only [chB, Option.some.injEq] at h; subst h; omega
  | k + 1, h => by
    rw [chB] at h
    cases hq : chB me old t x st k with
    | none => rw [hq] at h; cases h
    | some st2 =>
      rw [hq] at h
      have ih := chB_len hq
      simp only [Option.bind_some] at h
      split at h
      · cases h; omega
      · split at h
        · cases h; simp; omega
        · cases h
theorem chL_len {me : Int} {old : List Leaf} {t : Tch} {l : List Leaf} (hb : ∀ x ∈ l, x.blocks.length ≤ 40) : ∀ {i : Nat} {st : List Shp × Int}, chL me old t l i = some st → st.1.length ≤ 40 * i
  | 0, st, h => by simp only [chL, Option.some.injEq] at h; subst h; simp
  | i + 1, st, h => by
    rw [chL] at h
    cases hq : chL me old t l i with
    | none => rw [hq] at h; cases h
    | some st2 =>
      rw [hq] at h
      have ih := chL_len hb hq
      simp only [Option.bind_some] at h
      split at h
      · rename_i x hx
        have := chB_len h
        have := hb x (List.mem_of_getElem? hx)
        omega
      · cases h; omega
theorem sized_of {x : Leaf} (h : x.Right) : Sized x := by
  rcases h.2.2 with ⟨_, q⟩ | ⟨_, q⟩
  · exact ⟨q.2.1, q.2.2.1⟩
  · have := q.2.2.1; unfold Sized; omega
theorem blk_of {x : Leaf} (h : x.Right) : ∀ b ∈ x.blocks, 0 ≤ b ∧ b ≤ 1099511627776 := by
  rcases h.2.2 with ⟨_, q⟩ | ⟨_, q⟩
  · intro b hb; exact q.1 b hb
  · intro b hb; have := q.2.2.2.1; rw [this] at hb; cases hb
theorem right_mem {l : List TL} (h : L21.Table (l.map (·.x))) {y : TL} (hy : y ∈ l) : y.x.Right := by
  obtain ⟨i, hi⟩ := List.mem_iff_getElem?.1 (List.mem_map.2 ⟨y, hy, rfl⟩ : y.x ∈ l.map (·.x))
  exact (h i _ hi).1
attribute [local go_sem] subPs_0 subAt_0 subSet_0 subPs_1 subAt_1 subSet_1 subPs_2 subAt_2 subSet_2 sizes_sub shapes_sub fits_sub zero_sub zt_sub built_sub
attribute [local go_sem] fits9
attribute [local go_sem] Try.underlying43 fits43
attribute [local go_sem] L21.size_leaf L21.p46_4 L21.p46_5 shpPs_0 shpAt_0 shpSet_0 shpPs_1 shpAt_1 shpSet_1 fits_shp zero_shp built_shp Try.underlying58
attribute [local go_sem] tchPs_0 tchAt_0 tchPs_1 tchAt_1 tchPs_2 tchAt_2 sizes_tch fits_tch zero_tch zt_tch built_tch Try.underlying24
attribute [local go_sem] fits22 Try.underlying29
section
variable {σ : AST} {K : AV → AST → Prop}
theorem root_c {n : Int} (h : Rng n) (hK : K (.str (numS n)) σ) : TCalls Try.prog 40 [.int .i64 n] σ K := by
  refine tcalls_walk Try.f40 _ [.tmp 2] Try.func40 rfl rfl rfl mixed (Nat.le_of_ble_eq_true rfl) rfl fun hlen => ?_
  repeat' (first | (simp -dsimp only [↓reduceIte, go_sem]) | (refine arr_intro fun _ => ?_) | (refine later_intro ⟨keeps_nil, ?_⟩) | (refine later_intro ⟨keeps_refl, ?_⟩) | (with_reducible refine keeps_go ?_ ?_; focus (first | (simp [keeps_cons, keeps_none, objs_app, objs_app0]; done) | (simp only [keeps_cons, keeps_none, objs_app0, objs_app, and_true]; first | rfl | exact ⟨rfl, rfl⟩ | exact ⟨rfl, rfl, rfl⟩))) | (with_reducible refine (And.intro (a := keeps _ _ _) ?_ ?_); focus (first | (simp [keeps_cons, keeps_none, objs_app, objs_app0]; done) | (simp only [keeps_cons, keeps_none, objs_app0, objs_app, and_true]; first | rfl | exact ⟨rfl, rfl⟩ | exact ⟨rfl, rfl, rfl⟩))) | (refine both_ways ?_ ?_) | (rw [wrap_i64 (by omega) (by omega)]) | (refine guardV_split (fun h => ?_) (fun h => ?_) <;> (try rw [h]) <;> (try simp at h) <;> (try (exfalso; omega))) | (refine L01.number_c h.1 h.2 ?_))
  exact hK
def subW (n me : Int) : Sub := { sub0 with num := n, kind := 1, target := me }
theorem blks_x {l : List TL} : blks l = blkL (l.map (·.x)) := by unfold blks blkL; rw [List.flatMap_map]
theorem change_c {me n : Int} {old l : List TL} {to tl : Tk} {t : Tch} (hme : Rng me) (hn : Rng n) (hfo : FewL (old.map (·.x))) (hfl : FewL (l.map (·.x)))
    (hK : ∀ s' tk, Ext σ s' → K (.tuple [.slice tk ((chg me n (old.map (·.x)) (l.map (·.x)) t).1.map shpV), .int .i64 (chg me n (old.map (·.x)) (l.map (·.x)) t).2]) s') :
    TCalls Try.prog 10 [.int .i64 me, .int .i64 n, .slice to (old.map L21.leafV), .slice tl (l.map L21.leafV), tchV t] σ K := by
  by_cases hT : TabOk (old.map (·.x)) ∧ TabOk (l.map (·.x))
  · obtain ⟨hTo, hTl⟩ := hT
    refine tcalls_walk Try.f10 _ [.tmp 10, .tmp 11] Try.func10 rfl rfl rfl mixed (Nat.le_of_ble_eq_true rfl) rfl fun hlen => ?_
    repeat' (first | (simp -dsimp only [↓reduceIte, go_sem]) | (refine arr_intro fun _ => ?_) | (refine later_intro ⟨keeps_nil, ?_⟩) | (refine later_intro ⟨keeps_refl, ?_⟩) | (with_reducible refine keeps_go ?_ ?_; focus (first | (simp [keeps_cons, keeps_none, objs_app, objs_app0]; done) | (simp only [keeps_cons, keeps_none, objs_app0, objs_app, and_true]; first | rfl | exact ⟨rfl, rfl⟩ | exact ⟨rfl, rfl, rfl⟩))) | (with_reducible refine (And.intro (a := keeps _ _ _) ?_ ?_); focus (first | (simp [keeps_cons, keeps_none, objs_app, objs_app0]; done) | (simp only [keeps_cons, keeps_none, objs_app0, objs_app, and_true]; first | rfl | exact ⟨rfl, rfl⟩ | exact ⟨rfl, rfl, rfl⟩))) | (refine both_ways ?_ ?_) | (rw [wrap_i64 (by omega) (by omega)]) | (refine guardV_split (fun h => ?_) (fun h => ?_) <;> (try rw [h]) <;> (try simp at h) <;> (try (exfalso; omega))) | (refine table_c31 hfo (fun _ => ?_) (fun h => absurd hTo h)) | (refine table_c31 hfl (fun _ => ?_) (fun h => absurd hTl h)))
    have hRo : ∀ y ∈ old, y.x.Right := fun y hy => right_mem hTo.1 hy
    have hRl : ∀ y ∈ l, y.x.Right := fun y hy => right_mem hTl.1 hy
    have hol : old.length ≤ 40 := by have := hfo.1; rwa [List.length_map] at this
    have hll : l.length ≤ 40 := by have := hfl.1; rwa [List.length_map] at this
    have hlb : ∀ y ∈ l, y.x.blocks.length ≤ 40 := fun y hy => (hfl.2 y.x (List.mem_map.2 ⟨y, hy, rfl⟩)).1
    have hlb' : ∀ x ∈ l.map (·.x), x.blocks.length ≤ 40 := fun x hx => (hfl.2 x hx).1
    generalize hbt : (byt (l.map (·.x))).length = nb
    have hx0 : Ext σ (σ.app [.cells (tchV t)]) := Ext.app _ _
    have k0 : (σ.app [.cells (tchV t)]).objs[σ.objs.length]? = some (.cells (tchV t)) := objs_app0
    refine awp_rounds (fun (i : Nat) τ s => ∃ tb out root, i ≤ l.length ∧ chL me (old.map (·.x)) t (l.map (·.x)) i = some (out, root) ∧ -1 ≤ root ∧ root ≤ 1099511627777 ∧ Gr σ s tb out.length 2 ∧ s.objs[σ.objs.length]? = some (.cells (tchV t)) ∧ τ 0 = .int .i64 me ∧ τ 1 = .int .i64 n ∧ τ 2 = .slice to (old.map L21.leafV) ∧ τ 3 = .slice tl (l.map L21.leafV) ∧ τ 9 = .ptr (some (σ.objs.length, [])) ∧ τ 14 = .int .i64 nb ∧ τ 16 = .slice tb (out.map shpV) ∧ τ 17 = .int .i64 root ∧ τ 39 = .slice tl (l.map L21.leafV) ∧ τ 40 = .int .i64 l.length ∧ τ 41 = .int .i64 i) (fun i => l.length - i) 0 ?_ ?_
    · refine ⟨.full, [], -1, by omega, rfl, by omega, by omega, Gr.start' hx0, k0, ?_, ?_, ?_, ?_, ?_, ?_, ?_, ?_, ?_, ?_, ?_⟩ <;> (try simp only [go_sem, hbt]) <;> (try rfl)
    · rintro i τ s ⟨tb, out, root, hi, hch, hr1, hr2, hG, hk, t0, t1, t2, t3, t9, t14, t16, t17, t39, t40, t41⟩
      by_cases hib : i < l.length
      · have hlt1 : (i : Int) < l.length := by omega
        have hyi : l[i]? = some l[i] := List.getElem?_eq_getElem hib
        have hRy := hRl _ (List.getElem_mem hib)
        have hyb := hlb _ (List.getElem_mem hib)
        generalize l[i] = y at hyi hRy hyb
        have w1 : IntKind.i64.wrap ((i : Int) + 1) = (i : Int) + 1 := wrap_i64 (by omega) (by omega)
        have hol1 := chL_len hlb' hch
        dsimp only at hol1
        repeat' (first | (simp -dsimp only [↓reduceIte, go_sem, t0, t1, t2, t3, t9, t14, t16, t17, t39, t40, t41, hlt1, L21.leafV]) | (refine arr_intro fun _ => ?_) | (refine later_intro ⟨keeps_nil, ?_⟩) | (refine later_intro ⟨keeps_refl, ?_⟩) | (with_reducible refine keeps_go ?_ ?_; focus (first | (simp [keeps_cons, keeps_none, objs_app, objs_app0]; done) | (simp only [keeps_cons, keeps_none, objs_app0, objs_app, and_true]; first | rfl | exact ⟨rfl, rfl⟩ | exact ⟨rfl, rfl, rfl⟩))) | (with_reducible refine (And.intro (a := keeps _ _ _) ?_ ?_); focus (first | (simp [keeps_cons, keeps_none, objs_app, objs_app0]; done) | (simp only [keeps_cons, keeps_none, objs_app0, objs_app, and_true]; first | rfl | exact ⟨rfl, rfl⟩ | exact ⟨rfl, rfl, rfl⟩))) | (refine both_ways ?_ ?_) | (rw [wrap_i64 (by omega) (by omega)]) | (refine guardV_split (fun h => ?_) (fun h => ?_) <;> (try rw [h]) <;> (try simp at h) <;> (try (exfalso; omega))) | (refine nth_get hyi ?_))
        have hG2 : Gr σ (s.app [.cells (L21.leafV y)]) tb out.length 2 := hG.app
        have hk2 : (s.app [.cells (L21.leafV y)]).objs[σ.objs.length]? = some (.cells (tchV t)) := ext_knownV (Ext.app _ _) hk
        have hy2 : (s.app [.cells (L21.leafV y)]).objs[s.objs.length]? = some (.cells (L21.leafV y)) := objs_app0
        change awp _ _ _ _ (s.app [.cells (L21.leafV y)])
        have hjn : σ.objs.length ≠ s.objs.length := fun e => by have := (List.getElem?_eq_some_iff.1 hk).1; omega
        generalize s.objs.length = j at *
        generalize s.app [.cells (L21.leafV y)] = s2 at hG2 hk2 hy2 ⊢
        refine awp_rounds (fun (k : Nat) τ s => ∃ tb out' root', k ≤ y.x.blocks.length ∧ chB me (old.map (·.x)) t y.x (out, root) k = some (out', root') ∧ -1 ≤ root' ∧ root' ≤ 1099511627777 ∧ Gr σ s tb out'.length 2 ∧ s.objs[σ.objs.length]? = some (.cells (tchV t)) ∧ s.objs[j]? = some (.cells (L21.leafV y)) ∧ τ 0 = .int .i64 me ∧ τ 1 = .int .i64 n ∧ τ 2 = .slice to (old.map L21.leafV) ∧ τ 3 = .slice tl (l.map L21.leafV) ∧ τ 9 = .ptr (some (σ.objs.length, [])) ∧ τ 14 = .int .i64 nb ∧ τ 16 = .slice tb (out'.map shpV) ∧ τ 17 = .int .i64 root' ∧ τ 39 = .slice tl (l.map L21.leafV) ∧ τ 40 = .int .i64 l.length ∧ τ 41 = .int .i64 i ∧ τ 19 = .ptr (some (j, [])) ∧ τ 46 = .slice y.t1 (y.x.blocks.map (AV.int .i64)) ∧ τ 47 = .int .i64 y.x.blocks.length ∧ τ 48 = .int .i64 k) (fun k => y.x.blocks.length - k) 0 ?_ ?_
        · refine ⟨tb, out, root, by omega, rfl, hr1, hr2, hG2, hk2, hy2, ?_, ?_, ?_, ?_, ?_, ?_, ?_, ?_, ?_, ?_, ?_, ?_, ?_, ?_, ?_⟩ <;> (try simp only [go_sem, t0, t1, t2, t3, t9, t14, t16, t17, t39, t40, t41]) <;> (try rfl)
        · clear t0 t1 t2 t3 t9 t14 t16 t17 t39 t40 t41 hG hk hG2 hk2 hy2
          rintro k τ s ⟨tb, out', root', hk, hcb, hq1, hq2, hG, hk2, hy2, t0, t1, t2, t3, t9, t14, t16, t17, t39, t40, t41, t19, t46, t47, t48⟩
          have hob := chB_len hcb
          dsimp only at hob
          have c0 := cellAt_known hk2
          have c1 := cellAt_known hy2
          by_cases hkb : k < y.x.blocks.length
          · have hlt2 : (k : Int) < y.x.blocks.length := by omega
            have hbk : y.x.blocks[k]? = some y.x.blocks[k] := List.getElem?_eq_getElem hkb
            have hbb := blk_of hRy _ (List.getElem_mem hkb)
            have hbd : y.x.blocks.getD k 0 = y.x.blocks[k] := by rw [List.getD_eq_getElem?_getD, hbk]; rfl
            generalize y.x.blocks[k] = b at hbk hbb hbd
            have w2 : IntKind.i64.wrap ((k : Int) + 1) = (k : Int) + 1 := wrap_i64 (by omega) (by omega)
            have w3 : IntKind.i64.wrap (b + 1) = b + 1 := wrap_i64 (by omega) (by omega)
            have hlg := longI_le (sized_of hRy) (i := k) (by omega)
            generalize hh : hadP (old.map (·.x)) y.x k t = h
            have e2 : chB me (old.map (·.x)) t y.x (out, root) (k + 1) = if h = b then some (out', root') else if h = -1 then some (out' ++ [putS me b (longI y.x k)], b + 1) else none := by
              rw [chB, hcb, Option.bind_some, hbd]; dsimp only; rw [hh]
            have hhad : ∀ {s : AST} {K : AV → AST → Prop}, K (.int .i64 h) s → TCalls Try.prog 37 [.slice to (old.map L21.leafV), L21.leafV y, .int .i64 k, tchV t] s K := fun hK => had_c (fun z hz => sized_of (hRo z hz)) (sized_of hRy) (by omega) (by omega) (by rw [hh]; exact hK)
            by_cases hhb : h = b
            · rw [if_pos hhb] at e2
              have d1 : (h == b) = true := by simpa using hhb
              repeat' (first | (simp -dsimp only [↓reduceIte, go_sem, t0, t1, t2, t3, t9, t14, t16, t17, t39, t40, t41, t19, t46, t47, t48, hlt2, c0, c1, d1, w2]) | (refine arr_intro fun _ => ?_) | (refine later_intro ⟨keeps_nil, ?_⟩) | (refine later_intro ⟨keeps_refl, ?_⟩) | (with_reducible refine keeps_go ?_ ?_; focus (first | (simp [keeps_cons, keeps_none, objs_app, objs_app0]; done) | (simp only [keeps_cons, keeps_none, objs_app0, objs_app, and_true]; first | rfl | exact ⟨rfl, rfl⟩ | exact ⟨rfl, rfl, rfl⟩))) | (with_reducible refine (And.intro (a := keeps _ _ _) ?_ ?_); focus (first | (simp [keeps_cons, keeps_none, objs_app, objs_app0]; done) | (simp only [keeps_cons, keeps_none, objs_app0, objs_app, and_true]; first | rfl | exact ⟨rfl, rfl⟩ | exact ⟨rfl, rfl, rfl⟩))) | (refine both_ways ?_ ?_) | (rw [wrap_i64 (by omega) (by omega)]) | (refine guardV_split (fun h => ?_) (fun h => ?_) <;> (try rw [h]) <;> (try simp at h) <;> (try (exfalso; omega))) | (refine nth_get hbk ?_) | (refine hhad ?_))
              ((first | refine later_intro ⟨k + 1, by omega, tb, out', root', ?_⟩ | refine ⟨k + 1, by omega, tb, out', root', ?_⟩); (repeat' with_reducible apply And.intro); all_goals (first | omega | (simp only [go_sem, t0, t1, t2, t3, t9, t14, t16, t17, t39, t40, t41, t19, t46, t47, t48, w2]; done) | rfl | assumption | (simp only [go_sem, t0, t1, t2, t3, t9, t14, t16, t17, t39, t40, t41, t19, t46, t47, t48, w2]; rfl) | skip))
            · by_cases hh1 : h = -1
              · rw [if_neg hhb, if_pos hh1] at e2
                have d1 : ((-1 : Int) == b) = false := by rw [hh1] at hhb; simpa using hhb
                rw [hh1] at hhad
                have hpb : Rng b := ⟨by omega, by omega⟩
                repeat' (first | (simp -dsimp only [↓reduceIte, go_sem, t0, t1, t2, t3, t9, t14, t16, t17, t39, t40, t41, t19, t46, t47, t48, hlt2, c0, c1, d1, w2, w3]) | (refine arr_intro fun _ => ?_) | (refine later_intro ⟨keeps_nil, ?_⟩) | (refine later_intro ⟨keeps_refl, ?_⟩) | (with_reducible refine keeps_go ?_ ?_; focus (first | (simp [keeps_cons, keeps_none, objs_app, objs_app0]; done) | (simp only [keeps_cons, keeps_none, objs_app0, objs_app, and_true]; first | rfl | exact ⟨rfl, rfl⟩ | exact ⟨rfl, rfl, rfl⟩))) | (with_reducible refine (And.intro (a := keeps _ _ _) ?_ ?_); focus (first | (simp [keeps_cons, keeps_none, objs_app, objs_app0]; done) | (simp only [keeps_cons, keeps_none, objs_app0, objs_app, and_true]; first | rfl | exact ⟨rfl, rfl⟩ | exact ⟨rfl, rfl, rfl⟩))) | (refine both_ways ?_ ?_) | (rw [wrap_i64 (by omega) (by omega)]) | (refine guardV_split (fun h => ?_) (fun h => ?_) <;> (try rw [h]) <;> (try simp at h) <;> (try (exfalso; omega))) | (refine nth_get hbk ?_) | (refine hhad ?_) | (refine long_c (sized_of hRy) (by omega) ?_) | (refine put31_c hme hpb (by omega) ?_) | (refine build_slice E29s rfl (by decide) (by intro v hv; simp at hv; try (subst hv; simp [go_sem])) ?_))
                refine append_shp (y := putS me b (longI y.x k)) hG.c (by omega) ?_
                have og : ∀ (a : AST) m e (t : Tk), (growS a t m e).objs = a.objs := fun a m e t => growS_objs
                repeat' (first | (simp -dsimp only [↓reduceIte, go_sem, t0, t1, t2, t3, t9, t14, t16, t17, t39, t40, t41, t19, t46, t47, t48, w2, w3]) | (refine arr_intro fun _ => ?_) | (refine later_intro ⟨keeps_nil, ?_⟩) | (refine later_intro ⟨keeps_refl, ?_⟩) | (with_reducible refine keeps_go ?_ ?_; focus (first | (simp [keeps_cons, keeps_none, objs_app, objs_app0]; done) | (simp only [keeps_cons, keeps_none, objs_app0, objs_app, and_true]; first | rfl | exact ⟨rfl, rfl⟩ | exact ⟨rfl, rfl, rfl⟩))) | (with_reducible refine (And.intro (a := keeps _ _ _) ?_ ?_); focus (first | (simp [keeps_cons, keeps_none, objs_app, objs_app0]; done) | (simp only [keeps_cons, keeps_none, objs_app0, objs_app, and_true]; first | rfl | exact ⟨rfl, rfl⟩ | exact ⟨rfl, rfl, rfl⟩))) | (refine both_ways ?_ ?_) | (rw [wrap_i64 (by omega) (by omega)]) | (refine guardV_split (fun h => ?_) (fun h => ?_) <;> (try rw [h]) <;> (try simp at h) <;> (try (exfalso; omega))) | (refine nth_get hbk ?_))
                ((first | refine later_intro ⟨k + 1, by omega, growT s tb, out' ++ [putS me b (longI y.x k)], b + 1, ?_⟩ | refine ⟨k + 1, by omega, growT s tb, out' ++ [putS me b (longI y.x k)], b + 1, ?_⟩); (repeat' with_reducible apply And.intro); all_goals (first | omega | (simp only [go_sem, t0, t1, t2, t3, t9, t14, t16, t17, t39, t40, t41, t19, t46, t47, t48, w2, w3]; done) | rfl | assumption | (simp only [go_sem, t0, t1, t2, t3, t9, t14, t16, t17, t39, t40, t41, t19, t46, t47, t48, w2, w3]; rfl) | skip))
                all_goals first
                  | exact e2
                  | (rw [List.length_append]; exact hG.grow)
                  | (rw [og]; assumption)
                  | trace_state
              · rw [if_neg hhb, if_neg hh1] at e2
                have d1 : (h == b) = false := by simpa using hhb
                have d2 : (h == -1) = false := by simpa using hh1
                repeat' (first | (simp -dsimp only [↓reduceIte, go_sem, t0, t1, t2, t3, t9, t14, t16, t17, t39, t40, t41, t19, t46, t47, t48, hlt2, c0, c1, d1, d2]) | (refine arr_intro fun _ => ?_) | (refine later_intro ⟨keeps_nil, ?_⟩) | (refine later_intro ⟨keeps_refl, ?_⟩) | (with_reducible refine keeps_go ?_ ?_; focus (first | (simp [keeps_cons, keeps_none, objs_app, objs_app0]; done) | (simp only [keeps_cons, keeps_none, objs_app0, objs_app, and_true]; first | rfl | exact ⟨rfl, rfl⟩ | exact ⟨rfl, rfl, rfl⟩))) | (with_reducible refine (And.intro (a := keeps _ _ _) ?_ ?_); focus (first | (simp [keeps_cons, keeps_none, objs_app, objs_app0]; done) | (simp only [keeps_cons, keeps_none, objs_app0, objs_app, and_true]; first | rfl | exact ⟨rfl, rfl⟩ | exact ⟨rfl, rfl, rfl⟩))) | (refine both_ways ?_ ?_) | (rw [wrap_i64 (by omega) (by omega)]) | (refine guardV_split (fun h => ?_) (fun h => ?_) <;> (try rw [h]) <;> (try simp at h) <;> (try (exfalso; omega))) | (refine nth_get hbk ?_) | (refine hhad ?_))
                have := hK _ .full hG.x
                rw [chg_bad hch (by rw [List.getElem?_map, hyi]; rfl) (by omega) e2] at this
                exact this
          · obtain rfl : k = y.x.blocks.length := by omega
            have hlt2 : ¬ ((y.x.blocks.length : Nat) : Int) < y.x.blocks.length := by omega
            have e3 : chL me (old.map (·.x)) t (l.map (·.x)) (i + 1) = some (out', root') := by
              rw [chL, hch, List.getElem?_map, hyi]; exact hcb
            repeat' (first | (simp -dsimp only [↓reduceIte, go_sem, t0, t1, t2, t3, t9, t14, t16, t17, t39, t40, t41, t19, t46, t47, t48, hlt2, w1]) | (refine arr_intro fun _ => ?_) | (refine later_intro ⟨keeps_nil, ?_⟩) | (refine later_intro ⟨keeps_refl, ?_⟩) | (with_reducible refine keeps_go ?_ ?_; focus (first | (simp [keeps_cons, keeps_none, objs_app, objs_app0]; done) | (simp only [keeps_cons, keeps_none, objs_app0, objs_app, and_true]; first | rfl | exact ⟨rfl, rfl⟩ | exact ⟨rfl, rfl, rfl⟩))) | (with_reducible refine (And.intro (a := keeps _ _ _) ?_ ?_); focus (first | (simp [keeps_cons, keeps_none, objs_app, objs_app0]; done) | (simp only [keeps_cons, keeps_none, objs_app0, objs_app, and_true]; first | rfl | exact ⟨rfl, rfl⟩ | exact ⟨rfl, rfl, rfl⟩))) | (refine both_ways ?_ ?_) | (rw [wrap_i64 (by omega) (by omega)]) | (refine guardV_split (fun h => ?_) (fun h => ?_) <;> (try rw [h]) <;> (try simp at h) <;> (try (exfalso; omega))))
            ((first | refine later_intro ⟨i + 1, by omega, tb, out', root', ?_⟩ | refine ⟨i + 1, by omega, tb, out', root', ?_⟩); (repeat' with_reducible apply And.intro); all_goals (first | omega | (simp only [go_sem, t0, t1, t2, t3, t9, t14, t16, t17, t39, t40, t41, t19, t46, t47, t48, w1]; done) | rfl | assumption | (simp only [go_sem, t0, t1, t2, t3, t9, t14, t16, t17, t39, t40, t41, t19, t46, t47, t48, w1]; rfl) | skip))
            all_goals trace_state
      · obtain rfl : i = l.length := by omega
        have hlt1 : ¬ ((l.length : Nat) : Int) < l.length := by omega
        have e0 : chg me n (old.map (·.x)) (l.map (·.x)) t = chE me n (old.map (·.x)) (l.map (·.x)) (out, root) := by
          unfold chg
          rw [if_pos ⟨hTo, hTl⟩, List.length_map, hch]
        have hol1 := chL_len hlb' hch
        dsimp only at hol1
        have hnb : (nb : Int) ≤ 4096 := by have := hTl.2.1; omega
        have hts : ∀ p ∈ [(to, old), (tl, l)], ∀ y ∈ p.2, ∀ b ∈ y.x.blocks, 0 ≤ b ∧ b ≤ 1099511627776 := by
          intro p hp y hy b hb
          simp only [List.mem_cons, List.not_mem_nil, or_false] at hp
          rcases hp with rfl | rfl
          · exact blk_of (hRo y hy) b hb
          · exact blk_of (hRl y hy) b hb
        have htv : topL ([(to, old), (tl, l)].flatMap fun p => blks p.2) 0 = topL (blkL (old.map (·.x)) ++ blkL (l.map (·.x))) 0 := by simp [blks_x]
        have htb : 0 ≤ topL (blkL (old.map (·.x)) ++ blkL (l.map (·.x))) 0 ∧ topL (blkL (old.map (·.x)) ++ blkL (l.map (·.x))) 0 ≤ 1099511627777 := by
          refine ⟨topL_ge _ _, topL_le (by omega) fun b hb => ?_⟩
          rw [← blks_x, ← blks_x] at hb
          rcases List.mem_append.1 hb with hb | hb
          · obtain ⟨y, hy, hb⟩ := List.mem_flatMap.1 hb
            have := blk_of (hRo y hy) b hb; omega
          · obtain ⟨y, hy, hb⟩ := List.mem_flatMap.1 hb
            have := blk_of (hRl y hy) b hb; omega
        have e1 : ∀ r, r = (if root < 0 then topL (blkL (old.map (·.x)) ++ blkL (l.map (·.x))) 0 else root) → chg me n (old.map (·.x)) (l.map (·.x)) t = (out ++ [putS me r nb] ++ [subS me n r], 0) := fun r hr => by
          rw [e0, chE]; dsimp only; rw [← hr, hbt]; simp
        have og : ∀ (a : AST) m e (t : Tk), (growS a t m e).objs = a.objs := fun a m e t => growS_objs
        by_cases hr0 : root < 0
        · repeat' (first | (simp -dsimp only [↓reduceIte, go_sem, t0, t1, t2, t3, t9, t14, t16, t17, t39, t40, t41, hlt1, hr0, htv]) | (refine arr_intro fun _ => ?_) | (refine later_intro ⟨keeps_nil, ?_⟩) | (refine later_intro ⟨keeps_refl, ?_⟩) | (with_reducible refine keeps_go ?_ ?_; focus (first | (simp [keeps_cons, keeps_none, objs_app, objs_app0]; done) | (simp only [keeps_cons, keeps_none, objs_app0, objs_app, and_true]; first | rfl | exact ⟨rfl, rfl⟩ | exact ⟨rfl, rfl, rfl⟩))) | (with_reducible refine (And.intro (a := keeps _ _ _) ?_ ?_); focus (first | (simp [keeps_cons, keeps_none, objs_app, objs_app0]; done) | (simp only [keeps_cons, keeps_none, objs_app0, objs_app, and_true]; first | rfl | exact ⟨rfl, rfl⟩ | exact ⟨rfl, rfl, rfl⟩))) | (refine both_ways ?_ ?_) | (rw [wrap_i64 (by omega) (by omega)]) | (refine guardV_split (fun h => ?_) (fun h => ?_) <;> (try rw [h]) <;> (try simp at h) <;> (try (exfalso; omega))) | (refine build_slice E146 rfl (by decide) (by intro v hv; simp at hv; rcases hv with rfl | rfl <;> simp [go_sem]) ?_) | (refine top_c (ts := [(to, old), (tl, l)]) hts ?_))
          have e2 := e1 _ (by rw [if_pos hr0])
          generalize topL (blkL (old.map (·.x)) ++ blkL (l.map (·.x))) 0 = r at htb e2 ⊢
          have hnr : nlen r ≤ 22 := nlen_le ⟨by omega, by omega⟩
          repeat' (first | (simp -dsimp only [↓reduceIte, go_sem, t0, t1, t2, t3, t9, t14, t16, t17, t39, t40, t41, hlt1, hr0]) | (refine arr_intro fun _ => ?_) | (refine later_intro ⟨keeps_nil, ?_⟩) | (refine later_intro ⟨keeps_refl, ?_⟩) | (with_reducible refine keeps_go ?_ ?_; focus (first | (simp [keeps_cons, keeps_none, objs_app, objs_app0]; done) | (simp only [keeps_cons, keeps_none, objs_app0, objs_app, and_true]; first | rfl | exact ⟨rfl, rfl⟩ | exact ⟨rfl, rfl, rfl⟩))) | (with_reducible refine (And.intro (a := keeps _ _ _) ?_ ?_); focus (first | (simp [keeps_cons, keeps_none, objs_app, objs_app0]; done) | (simp only [keeps_cons, keeps_none, objs_app0, objs_app, and_true]; first | rfl | exact ⟨rfl, rfl⟩ | exact ⟨rfl, rfl, rfl⟩))) | (refine both_ways ?_ ?_) | (rw [wrap_i64 (by omega) (by omega)]) | (refine guardV_split (fun h => ?_) (fun h => ?_) <;> (try rw [h]) <;> (try simp at h) <;> (try (exfalso; omega))) | (refine put31_c hme ⟨by omega, by omega⟩ (by omega) ?_) | (refine build_slice E29s rfl (by decide) (by intro v hv; simp at hv; try (subst hv; simp [go_sem])) ?_))
          refine append_shp (y := putS me r nb) hG.c (by omega) ?_
          have hG3 := hG.grow (m := out.length + 1)
          generalize growS s tb (out.length + 1) 2 = s3 at hG3 ⊢
          generalize growT s tb = tb3 at hG3 ⊢
          have hl3 : out.length + 1 = (out ++ [putS me r nb]).length := by simp
          rw [hl3] at hG3
          repeat' (first | (simp -dsimp only [↓reduceIte, go_sem, t0, t1, t2, t3, t9, t14, t16, t17, t39, t40, t41]) | (refine arr_intro fun _ => ?_) | (refine later_intro ⟨keeps_nil, ?_⟩) | (refine later_intro ⟨keeps_refl, ?_⟩) | (with_reducible refine keeps_go ?_ ?_; focus (first | (simp [keeps_cons, keeps_none, objs_app, objs_app0]; done) | (simp only [keeps_cons, keeps_none, objs_app0, objs_app, and_true]; first | rfl | exact ⟨rfl, rfl⟩ | exact ⟨rfl, rfl, rfl⟩))) | (with_reducible refine (And.intro (a := keeps _ _ _) ?_ ?_); focus (first | (simp [keeps_cons, keeps_none, objs_app, objs_app0]; done) | (simp only [keeps_cons, keeps_none, objs_app0, objs_app, and_true]; first | rfl | exact ⟨rfl, rfl⟩ | exact ⟨rfl, rfl, rfl⟩))) | (refine both_ways ?_ ?_) | (rw [wrap_i64 (by omega) (by omega)]) | (refine guardV_split (fun h => ?_) (fun h => ?_) <;> (try rw [h]) <;> (try simp at h) <;> (try (exfalso; omega))) | (with_reducible refine awp_drawT (id := 25) (.op 0 2 (.op 1 2 (.op 2 2 (.op 3 2 (.op 4 3 (.op 5 2 (.op 6 3 (.op 7 2 (.op 8 1 (.op 9 2 (.op 10 2 .nil))))))))))) (by kernel_rfl) ?_) | (refine root_c ⟨by omega, by omega⟩ ?_) | (refine submit31_c (x := subW n me) hme hn (show Rng 1 from ⟨by decide, by decide⟩) hme (by have h := hnr; unfold nlen at h; omega) ?_) | (refine build_slice E29s rfl (by decide) (by intro v hv; simp at hv; try (subst hv; simp [go_sem])) ?_))
          refine append_shp (y := subS me n r) hG3.app.c (by rw [List.length_append]; simp; omega) ?_
          repeat' (first | (simp -dsimp only [↓reduceIte, go_sem]) | (refine arr_intro fun _ => ?_) | (refine later_intro ⟨keeps_nil, ?_⟩) | (refine later_intro ⟨keeps_refl, ?_⟩) | (with_reducible refine keeps_go ?_ ?_; focus (first | (simp [keeps_cons, keeps_none, objs_app, objs_app0]; done) | (simp only [keeps_cons, keeps_none, objs_app0, objs_app, and_true]; first | rfl | exact ⟨rfl, rfl⟩ | exact ⟨rfl, rfl, rfl⟩))) | (with_reducible refine (And.intro (a := keeps _ _ _) ?_ ?_); focus (first | (simp [keeps_cons, keeps_none, objs_app, objs_app0]; done) | (simp only [keeps_cons, keeps_none, objs_app0, objs_app, and_true]; first | rfl | exact ⟨rfl, rfl⟩ | exact ⟨rfl, rfl, rfl⟩))) | (refine both_ways ?_ ?_) | (rw [wrap_i64 (by omega) (by omega)]) | (refine guardV_split (fun h => ?_) (fun h => ?_) <;> (try rw [h]) <;> (try simp at h) <;> (try (exfalso; omega))))
          rw [e2] at hK
          exact hK _ _ hG3.app.grow.x
        · have e2 := e1 root (by rw [if_neg hr0])
          have htb : 0 ≤ root ∧ root ≤ 1099511627777 := by omega
          repeat' (first | (simp -dsimp only [↓reduceIte, go_sem, t0, t1, t2, t3, t9, t14, t16, t17, t39, t40, t41, hlt1, hr0]) | (refine arr_intro fun _ => ?_) | (refine later_intro ⟨keeps_nil, ?_⟩) | (refine later_intro ⟨keeps_refl, ?_⟩) | (with_reducible refine keeps_go ?_ ?_; focus (first | (simp [keeps_cons, keeps_none, objs_app, objs_app0]; done) | (simp only [keeps_cons, keeps_none, objs_app0, objs_app, and_true]; first | rfl | exact ⟨rfl, rfl⟩ | exact ⟨rfl, rfl, rfl⟩))) | (with_reducible refine (And.intro (a := keeps _ _ _) ?_ ?_); focus (first | (simp [keeps_cons, keeps_none, objs_app, objs_app0]; done) | (simp only [keeps_cons, keeps_none, objs_app0, objs_app, and_true]; first | rfl | exact ⟨rfl, rfl⟩ | exact ⟨rfl, rfl, rfl⟩))) | (refine both_ways ?_ ?_) | (rw [wrap_i64 (by omega) (by omega)]) | (refine guardV_split (fun h => ?_) (fun h => ?_) <;> (try rw [h]) <;> (try simp at h) <;> (try (exfalso; omega))))
          obtain ⟨r, rfl⟩ : ∃ r, r = root := ⟨_, rfl⟩
          have hnr : nlen r ≤ 22 := nlen_le ⟨by omega, by omega⟩
          repeat' (first | (simp -dsimp only [↓reduceIte, go_sem, t0, t1, t2, t3, t9, t14, t16, t17, t39, t40, t41, hlt1, hr0]) | (refine arr_intro fun _ => ?_) | (refine later_intro ⟨keeps_nil, ?_⟩) | (refine later_intro ⟨keeps_refl, ?_⟩) | (with_reducible refine keeps_go ?_ ?_; focus (first | (simp [keeps_cons, keeps_none, objs_app, objs_app0]; done) | (simp only [keeps_cons, keeps_none, objs_app0, objs_app, and_true]; first | rfl | exact ⟨rfl, rfl⟩ | exact ⟨rfl, rfl, rfl⟩))) | (with_reducible refine (And.intro (a := keeps _ _ _) ?_ ?_); focus (first | (simp [keeps_cons, keeps_none, objs_app, objs_app0]; done) | (simp only [keeps_cons, keeps_none, objs_app0, objs_app, and_true]; first | rfl | exact ⟨rfl, rfl⟩ | exact ⟨rfl, rfl, rfl⟩))) | (refine both_ways ?_ ?_) | (rw [wrap_i64 (by omega) (by omega)]) | (refine guardV_split (fun h => ?_) (fun h => ?_) <;> (try rw [h]) <;> (try simp at h) <;> (try (exfalso; omega))) | (refine put31_c hme ⟨by omega, by omega⟩ (by omega) ?_) | (refine build_slice E29s rfl (by decide) (by intro v hv; simp at hv; try (subst hv; simp [go_sem])) ?_))
          refine append_shp (y := putS me r nb) hG.c (by omega) ?_
          have hG3 := hG.grow (m := out.length + 1)
          generalize growS s tb (out.length + 1) 2 = s3 at hG3 ⊢
          generalize growT s tb = tb3 at hG3 ⊢
          have hl3 : out.length + 1 = (out ++ [putS me r nb]).length := by simp
          rw [hl3] at hG3
          repeat' (first | (simp -dsimp only [↓reduceIte, go_sem, t0, t1, t2, t3, t9, t14, t16, t17, t39, t40, t41]) | (refine arr_intro fun _ => ?_) | (refine later_intro ⟨keeps_nil, ?_⟩) | (refine later_intro ⟨keeps_refl, ?_⟩) | (with_reducible refine keeps_go ?_ ?_; focus (first | (simp [keeps_cons, keeps_none, objs_app, objs_app0]; done) | (simp only [keeps_cons, keeps_none, objs_app0, objs_app, and_true]; first | rfl | exact ⟨rfl, rfl⟩ | exact ⟨rfl, rfl, rfl⟩))) | (with_reducible refine (And.intro (a := keeps _ _ _) ?_ ?_); focus (first | (simp [keeps_cons, keeps_none, objs_app, objs_app0]; done) | (simp only [keeps_cons, keeps_none, objs_app0, objs_app, and_true]; first | rfl | exact ⟨rfl, rfl⟩ | exact ⟨rfl, rfl, rfl⟩))) | (refine both_ways ?_ ?_) | (rw [wrap_i64 (by omega) (by omega)]) | (refine guardV_split (fun h => ?_) (fun h => ?_) <;> (try rw [h]) <;> (try simp at h) <;> (try (exfalso; omega))) | (with_reducible refine awp_drawT (id := 25) (.op 0 2 (.op 1 2 (.op 2 2 (.op 3 2 (.op 4 3 (.op 5 2 (.op 6 3 (.op 7 2 (.op 8 1 (.op 9 2 (.op 10 2 .nil))))))))))) (by kernel_rfl) ?_) | (refine root_c ⟨by omega, by omega⟩ ?_) | (refine submit31_c (x := subW n me) hme hn (show Rng 1 from ⟨by decide, by decide⟩) hme (by have h := hnr; unfold nlen at h; omega) ?_) | (refine build_slice E29s rfl (by decide) (by intro v hv; simp at hv; try (subst hv; simp [go_sem])) ?_))
          refine append_shp (y := subS me n r) hG3.app.c (by rw [List.length_append]; simp; omega) ?_
          repeat' (first | (simp -dsimp only [↓reduceIte, go_sem]) | (refine arr_intro fun _ => ?_) | (refine later_intro ⟨keeps_nil, ?_⟩) | (refine later_intro ⟨keeps_refl, ?_⟩) | (with_reducible refine keeps_go ?_ ?_; focus (first | (simp [keeps_cons, keeps_none, objs_app, objs_app0]; done) | (simp only [keeps_cons, keeps_none, objs_app0, objs_app, and_true]; first | rfl | exact ⟨rfl, rfl⟩ | exact ⟨rfl, rfl, rfl⟩))) | (with_reducible refine (And.intro (a := keeps _ _ _) ?_ ?_); focus (first | (simp [keeps_cons, keeps_none, objs_app, objs_app0]; done) | (simp only [keeps_cons, keeps_none, objs_app0, objs_app, and_true]; first | rfl | exact ⟨rfl, rfl⟩ | exact ⟨rfl, rfl, rfl⟩))) | (refine both_ways ?_ ?_) | (rw [wrap_i64 (by omega) (by omega)]) | (refine guardV_split (fun h => ?_) (fun h => ?_) <;> (try rw [h]) <;> (try simp at h) <;> (try (exfalso; omega))))
          rw [e2] at hK
          exact hK _ _ hG3.app.grow.x
  · have e : chg me n (old.map (·.x)) (l.map (·.x)) t = ([], 2) := by unfold chg; rw [if_neg hT]
    rw [e] at hK
    refine tcalls_walk Try.f10 _ [.tmp 10, .tmp 11] Try.func10 rfl rfl rfl mixed (Nat.le_of_ble_eq_true rfl) rfl fun hlen => ?_
    repeat' (first | (simp -dsimp only [↓reduceIte, go_sem]) | (refine arr_intro fun _ => ?_) | (refine later_intro ⟨keeps_nil, ?_⟩) | (refine later_intro ⟨keeps_refl, ?_⟩) | (with_reducible refine keeps_go ?_ ?_; focus (first | (simp [keeps_cons, keeps_none, objs_app, objs_app0]; done) | (simp only [keeps_cons, keeps_none, objs_app0, objs_app, and_true]; first | rfl | exact ⟨rfl, rfl⟩ | exact ⟨rfl, rfl, rfl⟩))) | (with_reducible refine (And.intro (a := keeps _ _ _) ?_ ?_); focus (first | (simp [keeps_cons, keeps_none, objs_app, objs_app0]; done) | (simp only [keeps_cons, keeps_none, objs_app0, objs_app, and_true]; first | rfl | exact ⟨rfl, rfl⟩ | exact ⟨rfl, rfl, rfl⟩))) | (refine both_ways ?_ ?_) | (rw [wrap_i64 (by omega) (by omega)]) | (refine guardV_split (fun h => ?_) (fun h => ?_) <;> (try rw [h]) <;> (try simp at h) <;> (try (exfalso; omega))) | (refine table_c31 hfo (fun h => ?_) (fun h n => ?_)) | (refine table_c31 hfl (fun h => ?_) (fun h n => ?_)))
    · exact absurd ⟨‹_›, ‹_›⟩ hT
    all_goals exact hK _ .full (Ext.app _ _)
end
end Go.Aff.L10

