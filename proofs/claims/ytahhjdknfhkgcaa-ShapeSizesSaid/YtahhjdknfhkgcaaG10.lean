import Derived.Test.YtahhjdknfhkgcaaG9
import Derived.Test.YtahhjdknfhkgcaaG1

set_option linter.unusedSimpArgs false
set_option linter.unusedVariables false

namespace Go.Aff.L10
open Go.Proofs Go.Aff Go.Aff.L01 Classical
set_option maxRecDepth 20000
attribute [local go_sem] push_app app_app length_app cellAt_app cellAt_app0 set_app set_app0 objs_app objs_app0 List.cons_append List.nil_append List.length_cons List.length_nil List.getElem?_cons_zero List.getElem?_cons_succ List.set_cons_zero List.set_cons_succ List.length_map
attribute [-go_sem] cellAt_new
attribute [-simp] List.length_flatMap
attribute [local go_sem] fits3 zt3 zero3
attribute [local go_sem ↓] blockQ_exit2
attribute [local go_sem] shpPs_0 shpAt_0 shpSet_0 shpPs_1 shpAt_1 shpSet_1 sizes_shp shapes_shp fits_shp zero_shp zt_shp built_shp Try.underlying164
theorem size_part {p : Part} : (partV p).size = 1 := by cases p <;> rfl
theorem agg_part {p : Part} : (partV p).isAgg = false := by cases p <;> rfl
theorem known_part {p : Part} : (partV p).known = true := by cases p <;> rfl
theorem fits167 {v : AV} : fits Try.prog 167 v = (v.isAgg = false ∧ v.size = 1) := fits_leaf (by kernel_rfl) (by kernel_rfl)
theorem zt167 : ZeroOf Try.prog 167 .nilIface = True := eq_true ⟨_, _, rfl, rfl, rfl, rfl, rfl⟩
theorem E164 : ElemT Try.prog 164 167 1 16 := ⟨rfl, by kernel_rfl, by kernel_rfl, ⟨_, of_eq_true zt167⟩, by decide⟩
attribute [local go_sem] size_part agg_part known_part fits167
theorem Part.len_le {p : Part} (h : p.Ok) : p.len ≤ 4398046600000 := by
  cases p with
  | num n => have := nlen_le h; simp only [Part.len]; omega
  | txt n =>
    have h' : n ≤ 4398046511104 := h
    have := nlen_le (n := max n 0) ⟨by omega, by omega⟩
    simp only [Part.len, tlen]; omega
  | sgn => simp [Part.len]
  | lst tk l => have := llen_take h.2; have := h.1; simp only [Part.len]; omega
theorem add_c {p : Part} (h : p.Ok) {j : Nat} {n : Nat} {s : AST} (hj : s.objs[j]? = some (.cells (.int .i64 n))) (hn : n ≤ 9000000000000000) {K : AV → AST → Prop}
    (hK : K (.tuple []) (s.set j (.cells (.int .i64 ((n + p.len : Nat) : Int))))) : TCalls Try.prog 98 [partV p, .ptr (some (j, []))] s K := by
  have cj := cellAt_known hj
  have hl := Part.len_le h
  have w : IntKind.i64.wrap ((n : Int) + (p.len : Nat)) = ((n + p.len : Nat) : Int) := by rw [wrap_i64 (by omega) (by omega)]; omega
  refine tcalls_walk Try.f98 _ [] Try.func98 rfl rfl rfl mixed (Nat.le_of_ble_eq_true rfl) rfl fun hlen => ?_
  repeat' (first | (simp -dsimp only [↓reduceIte, go_sem, cj, hj, w]) | (refine arr_intro fun _ => ?_) | (refine later_intro ⟨keeps_nil, ?_⟩) | (refine later_intro ⟨keeps_refl, ?_⟩) | (with_reducible refine keeps_go ?_ ?_; focus (first | (simp [keeps_cons, keeps_none, objs_app, objs_app0]; done) | (simp only [keeps_cons, keeps_none, objs_app0, objs_app, and_true]; first | rfl | exact ⟨rfl, rfl⟩ | exact ⟨rfl, rfl, rfl⟩))) | (with_reducible refine (And.intro (a := keeps _ _ _) ?_ ?_); focus (first | (simp [keeps_cons, keeps_none, objs_app, objs_app0]; done) | (simp only [keeps_cons, keeps_none, objs_app0, objs_app, and_true]; first | rfl | exact ⟨rfl, rfl⟩ | exact ⟨rfl, rfl, rfl⟩))) | (refine both_ways ?_ ?_) | (rw [wrap_i64 (by omega) (by omega)]) | (refine guardV_split (fun h => ?_) (fun h => ?_) <;> (try rw [h]) <;> (try simp at h) <;> (try (exfalso; omega))) | (with_reducible refine awp_drawU (id := 0) (.op 0 0 (.op 1 2 (.op 2 1 (.cut (.op 3 2 (.op 4 1 .nil)))))) (by kernel_rfl) ?_) | (refine part_size h ?_))
  all_goals exact hK
def lens (ps : List Part) : Nat := (ps.map Part.len).sum
theorem lens_le {ps : List Part} (h : ∀ p ∈ ps, p.Ok) : lens ps ≤ 4398046600000 * ps.length := by
  induction ps with
  | nil => simp [lens]
  | cons p ps ih =>
    have h1 := Part.len_le (h p (List.mem_cons_self ..))
    have h2 := ih fun q hq => h q (List.mem_cons_of_mem _ hq)
    simp only [lens, List.map_cons, List.sum_cons, List.length_cons] at h2 ⊢
    omega
theorem shape_c {k : Int} (hk : Rng k) {ps : List Part} (hp : ∀ p ∈ ps, p.Ok) (hl : ps.length ≤ 100) {tk : Tk} {σ : AST} {K : AV → AST → Prop}
    (hK : K (.agg (shpPs ⟨k, ((nlen k + lens ps : Nat) : Int)⟩)) σ) : TCalls Try.prog 73 [.int .i64 k, .slice tk (ps.map partV)] σ K := by
  refine TCalls.drop ?_
  have hn := nlen_le hk
  refine tcalls_walk Try.f73 _ [.cell 4 58] Try.func73 rfl rfl rfl mixed (Nat.le_of_ble_eq_true rfl) rfl fun hlen => ?_
  repeat' (first | (simp -dsimp only [↓reduceIte, go_sem]) | (refine arr_intro fun _ => ?_) | (refine later_intro ⟨keeps_nil, ?_⟩) | (refine later_intro ⟨keeps_refl, ?_⟩) | (with_reducible refine keeps_go ?_ ?_; focus (first | (simp [keeps_cons, keeps_none, objs_app, objs_app0]; done) | (simp only [keeps_cons, keeps_none, objs_app0, objs_app, and_true]; first | rfl | exact ⟨rfl, rfl⟩ | exact ⟨rfl, rfl, rfl⟩))) | (with_reducible refine (And.intro (a := keeps _ _ _) ?_ ?_); focus (first | (simp [keeps_cons, keeps_none, objs_app, objs_app0]; done) | (simp only [keeps_cons, keeps_none, objs_app0, objs_app, and_true]; first | rfl | exact ⟨rfl, rfl⟩ | exact ⟨rfl, rfl, rfl⟩))) | (refine both_ways ?_ ?_) | (rw [wrap_i64 (by omega) (by omega)]) | (refine guardV_split (fun h => ?_) (fun h => ?_) <;> (try rw [h]) <;> (try simp at h) <;> (try (exfalso; omega))) | (refine num_size hk ?_))
  refine ⟨fun x hx => ?_, later_intro ?_⟩
  · simp only [List.mem_cons, List.mem_append, List.not_mem_nil, or_false, false_or] at hx
    rcases hx with rfl
    simp only [go_sem] <;> rfl
  repeat' (first | (simp -dsimp only [↓reduceIte, go_sem]) | (refine arr_intro fun _ => ?_) | (refine later_intro ⟨keeps_nil, ?_⟩) | (refine later_intro ⟨keeps_refl, ?_⟩) | (with_reducible refine keeps_go ?_ ?_; focus (first | (simp [keeps_cons, keeps_none, objs_app, objs_app0]; done) | (simp only [keeps_cons, keeps_none, objs_app0, objs_app, and_true]; first | rfl | exact ⟨rfl, rfl⟩ | exact ⟨rfl, rfl, rfl⟩))) | (with_reducible refine (And.intro (a := keeps _ _ _) ?_ ?_); focus (first | (simp [keeps_cons, keeps_none, objs_app, objs_app0]; done) | (simp only [keeps_cons, keeps_none, objs_app0, objs_app, and_true]; first | rfl | exact ⟨rfl, rfl⟩ | exact ⟨rfl, rfl, rfl⟩))) | (refine both_ways ?_ ?_) | (rw [wrap_i64 (by omega) (by omega)]) | (refine guardV_split (fun h => ?_) (fun h => ?_) <;> (try rw [h]) <;> (try simp at h) <;> (try (exfalso; omega))))
  refine awp_rounds (fun (i : Nat) τ s' => i ≤ ps.length ∧ Ext σ s' ∧ s'.objs[σ.objs.length]? = some (.cells (.agg (shpPs shp0))) ∧ s'.objs[σ.objs.length + 1]? = some (.cells (.int .i64 ((nlen k + lens (ps.take i) : Nat) : Int))) ∧
    τ 0 = .int .i64 k ∧ τ 4 = .ptr (some (σ.objs.length, [])) ∧ τ 5 = .ptr (some (σ.objs.length + 1, [])) ∧ τ 6 = .fn (.func 98) [] [.ptr (some (σ.objs.length + 1, []))] ∧ τ 12 = .slice tk (ps.map partV) ∧ τ 13 = .int .i64 ps.length ∧ τ 14 = .int .i64 i) (fun i => ps.length - i) 0 ?_ ?_
  · refine ⟨by omega, Ext.app _ _, objs_app0, ?_, ?_, ?_, ?_, ?_, ?_, ?_, ?_⟩ <;> (try simp only [go_sem]) <;> (try rfl)
  · rintro i τ s' ⟨hi, hx, o0, o1, t0, t4, t5, t6, t12, t13, t14⟩
    have hs := fun j => lens_le (ps := ps.take j) (fun p h => hp p (List.mem_of_mem_take h))
    by_cases hlt : i < ps.length
    · have hlt1 : (i : Int) < ps.length := by omega
      have hpi : ps[i]? = some ps[i] := List.getElem?_eq_getElem hlt
      have hok := hp _ (List.getElem_mem hlt)
      have e : ps.take (i + 1) = ps.take i ++ [ps[i]] := (List.take_append_getElem hlt).symm
      generalize ps[i] = p at hpi hok e
      have e2 : nlen k + lens (ps.take (i + 1)) = nlen k + lens (ps.take i) + p.len := by rw [e]; simp [lens]; omega
      have w1 : IntKind.i64.wrap ((i : Int) + 1) = (i : Int) + 1 := wrap_i64 (by omega) (by omega)
      have h1 := hs i
      rw [List.length_take] at h1
      repeat' (first | (simp -dsimp only [↓reduceIte, go_sem, t0, t4, t5, t6, t12, t13, t14, hlt1]) | (refine arr_intro fun _ => ?_) | (refine later_intro ⟨keeps_nil, ?_⟩) | (refine later_intro ⟨keeps_refl, ?_⟩) | (with_reducible refine keeps_go ?_ ?_; focus (first | (simp [keeps_cons, keeps_none, objs_app, objs_app0]; done) | (simp only [keeps_cons, keeps_none, objs_app0, objs_app, and_true]; first | rfl | exact ⟨rfl, rfl⟩ | exact ⟨rfl, rfl, rfl⟩))) | (with_reducible refine (And.intro (a := keeps _ _ _) ?_ ?_); focus (first | (simp [keeps_cons, keeps_none, objs_app, objs_app0]; done) | (simp only [keeps_cons, keeps_none, objs_app0, objs_app, and_true]; first | rfl | exact ⟨rfl, rfl⟩ | exact ⟨rfl, rfl, rfl⟩))) | (refine both_ways ?_ ?_) | (rw [wrap_i64 (by omega) (by omega)]) | (refine guardV_split (fun h => ?_) (fun h => ?_) <;> (try rw [h]) <;> (try simp at h) <;> (try (exfalso; omega))) | (refine nth_get hpi ?_))
      refine add_c hok o1 (by omega) ?_
      have l0 : σ.objs.length < s'.objs.length := (List.getElem?_eq_some_iff.1 o0).1
      have l1 : σ.objs.length + 1 < s'.objs.length := (List.getElem?_eq_some_iff.1 o1).1
      repeat' (first | (simp -dsimp only [↓reduceIte, go_sem, t0, t4, t5, t6, t12, t13, t14, w1]) | (refine arr_intro fun _ => ?_) | (refine later_intro ⟨keeps_nil, ?_⟩) | (refine later_intro ⟨keeps_refl, ?_⟩) | (with_reducible refine keeps_go ?_ ?_; focus (first | (simp [keeps_cons, keeps_none, objs_app, objs_app0]; done) | (simp only [keeps_cons, keeps_none, objs_app0, objs_app, and_true]; first | rfl | exact ⟨rfl, rfl⟩ | exact ⟨rfl, rfl, rfl⟩))) | (with_reducible refine (And.intro (a := keeps _ _ _) ?_ ?_); focus (first | (simp [keeps_cons, keeps_none, objs_app, objs_app0]; done) | (simp only [keeps_cons, keeps_none, objs_app0, objs_app, and_true]; first | rfl | exact ⟨rfl, rfl⟩ | exact ⟨rfl, rfl, rfl⟩))) | (refine both_ways ?_ ?_) | (rw [wrap_i64 (by omega) (by omega)]) | (refine guardV_split (fun h => ?_) (fun h => ?_) <;> (try rw [h]) <;> (try simp at h) <;> (try (exfalso; omega))))
      refine later_intro ⟨i + 1, by omega, by omega, hx.set (by omega), ?_, ?_, ?_, ?_, ?_, ?_, ?_, ?_, ?_⟩ <;> (try simp only [go_sem, t0, t4, t5, t6, t12, t13, t14]) <;> (try rfl)
      · simp only [AST.set]; rw [List.getElem?_set_ne (by omega)]; exact o0
      · simp only [AST.set]; rw [List.getElem?_set_self l1, e2]
    · obtain rfl : i = ps.length := by omega
      have hlt1 : ¬ ((ps.length : Nat) : Int) < ps.length := by omega
      rw [List.take_length] at o1
      have c0 := cellAt_known o0
      have c1 := cellAt_known o1
      have l0 : σ.objs.length < s'.objs.length := (List.getElem?_eq_some_iff.1 o0).1
      have g : ∀ v q, cellAt (s'.set σ.objs.length (.cells v)) σ.objs.length q = v.at q := fun v q => cellAt_known (by simp only [AST.set]; rw [List.getElem?_set_self l0]) q
      repeat' (first | (simp -dsimp only [↓reduceIte, go_sem, t0, t4, t5, t6, t12, t13, t14, hlt1, c0, c1, o0, g]) | (refine arr_intro fun _ => ?_) | (refine later_intro ⟨keeps_nil, ?_⟩) | (refine later_intro ⟨keeps_refl, ?_⟩) | (with_reducible refine keeps_go ?_ ?_; focus (first | (simp [keeps_cons, keeps_none, objs_app, objs_app0]; done) | (simp only [keeps_cons, keeps_none, objs_app0, objs_app, and_true]; first | rfl | exact ⟨rfl, rfl⟩ | exact ⟨rfl, rfl, rfl⟩))) | (with_reducible refine (And.intro (a := keeps _ _ _) ?_ ?_); focus (first | (simp [keeps_cons, keeps_none, objs_app, objs_app0]; done) | (simp only [keeps_cons, keeps_none, objs_app0, objs_app, and_true]; first | rfl | exact ⟨rfl, rfl⟩ | exact ⟨rfl, rfl, rfl⟩))) | (refine both_ways ?_ ?_) | (rw [wrap_i64 (by omega) (by omega)]) | (refine guardV_split (fun h => ?_) (fun h => ?_) <;> (try rw [h]) <;> (try simp at h) <;> (try (exfalso; omega))))
      exact ⟨hx.set (by omega), by simp [AV.noRef, AV.noRefs, shpPs], by simpa [AV.strip, AV.strips, shpPs] using hK⟩
theorem build_parts {ps : List Part} {n : Nat} {fs : List (Nat × AV)} {KV : AV → Prop} (h1 : fs.map (·.1) = List.range n) (h2 : fs.map (·.2) = ps.map partV) (hl : n ≤ 100) (h : KV (.slice .full (ps.map partV))) : buildSliceW Try.prog 164 n fs KV :=
  build_slice E164 h1 (by omega) (by rw [h2]; intro v hv; obtain ⟨x, _, rfl⟩ := List.mem_map.1 hv; simp [go_sem]) (by rw [h2]; exact h)
attribute [local go_sem] subPs_0 subAt_0 subPs_1 subAt_1 subPs_2 subAt_2 Try.underlying67
attribute [local go_sem] Try.underlying135 Try.underlying136 Try.underlying138 Try.underlying139 zero138 zt138 built138
def shpOf (k : Int) (ps : List Part) : Shp := ⟨k, ((nlen k + lens ps : Nat) : Int)⟩
section
variable {σ : AST} {K : AV → AST → Prop}
theorem put31_c {o n c : Int} (ho : Rng o) (hn : Rng n) (hc : c ≤ 4398046511104) (hK : K (.agg (shpPs (shpOf 4 [.num o, .num n, .txt c, .sgn]))) σ) : TCalls Try.prog 27 [.int .i64 o, .int .i64 n, .int .i64 c] σ K := by
  refine TCalls.drop ?_
  have g : ∀ v w p, cellAt ((σ.app [.cells v]).set σ.objs.length (.cells w)) σ.objs.length p = w.at p := fun v w p => cellAt_known (by simp [AST.set, AST.app]) p
  have fin : ∀ s' x, Ext σ s' → K (.agg (shpPs x)) σ → Ext σ s' ∧ (AV.agg (shpPs x)).noRef = true ∧ K (AV.agg (shpPs x)).strip σ := fun s' x hx h => ⟨hx, by simp [AV.noRef, AV.noRefs, shpPs], by simpa [AV.strip, AV.strips, shpPs] using h⟩
  refine tcalls_walk Try.f27 _ [.cell 6 58] Try.func27 rfl rfl rfl mixed (Nat.le_of_ble_eq_true rfl) rfl fun hlen => ?_
  repeat' (first | (simp -dsimp only [↓reduceIte, go_sem, g]) | (refine arr_intro fun _ => ?_) | (refine later_intro ⟨keeps_nil, ?_⟩) | (refine later_intro ⟨keeps_refl, ?_⟩) | (with_reducible refine keeps_go ?_ ?_; focus (first | (simp [keeps_cons, keeps_none, objs_app, objs_app0]; done) | (simp only [keeps_cons, keeps_none, objs_app0, objs_app, and_true]; first | rfl | exact ⟨rfl, rfl⟩ | exact ⟨rfl, rfl, rfl⟩))) | (with_reducible refine (And.intro (a := keeps _ _ _) ?_ ?_); focus (first | (simp [keeps_cons, keeps_none, objs_app, objs_app0]; done) | (simp only [keeps_cons, keeps_none, objs_app0, objs_app, and_true]; first | rfl | exact ⟨rfl, rfl⟩ | exact ⟨rfl, rfl, rfl⟩))) | (refine both_ways ?_ ?_) | (rw [wrap_i64 (by omega) (by omega)]) | (refine guardV_split (fun h => ?_) (fun h => ?_) <;> (try rw [h]) <;> (try simp at h) <;> (try (exfalso; omega))) | (refine build_parts (ps := [.num o, .num n, .txt c, .sgn]) rfl rfl (by decide) ?_) | (refine shape_c (ps := [.num o, .num n, .txt c, .sgn]) ⟨by decide, by decide⟩ (by intro p hp; simp only [List.mem_cons, List.not_mem_nil, or_false] at hp; rcases hp with rfl | rfl | rfl | rfl <;> first | exact trivial | assumption) (by simp) ?_))
  exact fin _ _ (Ext.app _ _) hK
theorem commit31_c {o c : Int} (ho : Rng o) (hc : c ≤ 4398046511104) (hK : K (.agg (shpPs (shpOf 3 [.num o, .txt c, .sgn]))) σ) : TCalls Try.prog 26 [.int .i64 o, .int .i64 c] σ K := by
  refine TCalls.drop ?_
  have g : ∀ v w p, cellAt ((σ.app [.cells v]).set σ.objs.length (.cells w)) σ.objs.length p = w.at p := fun v w p => cellAt_known (by simp [AST.set, AST.app]) p
  have fin : ∀ s' x, Ext σ s' → K (.agg (shpPs x)) σ → Ext σ s' ∧ (AV.agg (shpPs x)).noRef = true ∧ K (AV.agg (shpPs x)).strip σ := fun s' x hx h => ⟨hx, by simp [AV.noRef, AV.noRefs, shpPs], by simpa [AV.strip, AV.strips, shpPs] using h⟩
  refine tcalls_walk Try.f26 _ [.cell 4 58] Try.func26 rfl rfl rfl mixed (Nat.le_of_ble_eq_true rfl) rfl fun hlen => ?_
  repeat' (first | (simp -dsimp only [↓reduceIte, go_sem, g]) | (refine arr_intro fun _ => ?_) | (refine later_intro ⟨keeps_nil, ?_⟩) | (refine later_intro ⟨keeps_refl, ?_⟩) | (with_reducible refine keeps_go ?_ ?_; focus (first | (simp [keeps_cons, keeps_none, objs_app, objs_app0]; done) | (simp only [keeps_cons, keeps_none, objs_app0, objs_app, and_true]; first | rfl | exact ⟨rfl, rfl⟩ | exact ⟨rfl, rfl, rfl⟩))) | (with_reducible refine (And.intro (a := keeps _ _ _) ?_ ?_); focus (first | (simp [keeps_cons, keeps_none, objs_app, objs_app0]; done) | (simp only [keeps_cons, keeps_none, objs_app0, objs_app, and_true]; first | rfl | exact ⟨rfl, rfl⟩ | exact ⟨rfl, rfl, rfl⟩))) | (refine both_ways ?_ ?_) | (rw [wrap_i64 (by omega) (by omega)]) | (refine guardV_split (fun h => ?_) (fun h => ?_) <;> (try rw [h]) <;> (try simp at h) <;> (try (exfalso; omega))) | (refine build_parts (ps := [.num o, .txt c, .sgn]) rfl rfl (by decide) ?_) | (refine shape_c (ps := [.num o, .txt c, .sgn]) ⟨by decide, by decide⟩ (by intro p hp; simp only [List.mem_cons, List.not_mem_nil, or_false] at hp; rcases hp with rfl | rfl | rfl <;> first | exact trivial | assumption) (by simp) ?_))
  exact fin _ _ (Ext.app _ _) hK
theorem version31_c {o n c : Int} (ho : Rng o) (hn : Rng n) (hc : c ≤ 4398046511104) (hK : K (.agg (shpPs (shpOf 10 [.num o, .num n, .txt c, .sgn, .sgn]))) σ) : TCalls Try.prog 29 [.int .i64 o, .int .i64 n, .int .i64 c] σ K := by
  refine TCalls.drop ?_
  have g : ∀ v w p, cellAt ((σ.app [.cells v]).set σ.objs.length (.cells w)) σ.objs.length p = w.at p := fun v w p => cellAt_known (by simp [AST.set, AST.app]) p
  have fin : ∀ s' x, Ext σ s' → K (.agg (shpPs x)) σ → Ext σ s' ∧ (AV.agg (shpPs x)).noRef = true ∧ K (AV.agg (shpPs x)).strip σ := fun s' x hx h => ⟨hx, by simp [AV.noRef, AV.noRefs, shpPs], by simpa [AV.strip, AV.strips, shpPs] using h⟩
  refine tcalls_walk Try.f29 _ [.cell 6 58] Try.func29 rfl rfl rfl mixed (Nat.le_of_ble_eq_true rfl) rfl fun hlen => ?_
  repeat' (first | (simp -dsimp only [↓reduceIte, go_sem, g]) | (refine arr_intro fun _ => ?_) | (refine later_intro ⟨keeps_nil, ?_⟩) | (refine later_intro ⟨keeps_refl, ?_⟩) | (with_reducible refine keeps_go ?_ ?_; focus (first | (simp [keeps_cons, keeps_none, objs_app, objs_app0]; done) | (simp only [keeps_cons, keeps_none, objs_app0, objs_app, and_true]; first | rfl | exact ⟨rfl, rfl⟩ | exact ⟨rfl, rfl, rfl⟩))) | (with_reducible refine (And.intro (a := keeps _ _ _) ?_ ?_); focus (first | (simp [keeps_cons, keeps_none, objs_app, objs_app0]; done) | (simp only [keeps_cons, keeps_none, objs_app0, objs_app, and_true]; first | rfl | exact ⟨rfl, rfl⟩ | exact ⟨rfl, rfl, rfl⟩))) | (refine both_ways ?_ ?_) | (rw [wrap_i64 (by omega) (by omega)]) | (refine guardV_split (fun h => ?_) (fun h => ?_) <;> (try rw [h]) <;> (try simp at h) <;> (try (exfalso; omega))) | (refine build_parts (ps := [.num o, .num n, .txt c, .sgn, .sgn]) rfl rfl (by decide) ?_) | (refine shape_c (ps := [.num o, .num n, .txt c, .sgn, .sgn]) ⟨by decide, by decide⟩ (by intro p hp; simp only [List.mem_cons, List.not_mem_nil, or_false] at hp; rcases hp with rfl | rfl | rfl | rfl | rfl <;> first | exact trivial | assumption) (by simp) ?_))
  exact fin _ _ (Ext.app _ _) hK
theorem submit31_c {o c : Int} {x : Sub} (ho : Rng o) (h1 : Rng x.num) (h2 : Rng x.kind) (h3 : Rng x.target) (hc : c ≤ 4398046511104)
    (hK : K (.agg (shpPs (shpOf 1 [.num o, .num x.num, .num x.kind, .num x.target, .txt c, .sgn, .sgn]))) σ) : TCalls Try.prog 25 [.int .i64 o, subV x, .int .i64 c] σ K := by
  refine TCalls.drop ?_
  have g : ∀ v w p, cellAt ((σ.app [.cells v]).set σ.objs.length (.cells w)) σ.objs.length p = w.at p := fun v w p => cellAt_known (by simp [AST.set, AST.app]) p
  have fin : ∀ s' x, Ext σ s' → K (.agg (shpPs x)) σ → Ext σ s' ∧ (AV.agg (shpPs x)).noRef = true ∧ K (AV.agg (shpPs x)).strip σ := fun s' x hx h => ⟨hx, by simp [AV.noRef, AV.noRefs, shpPs], by simpa [AV.strip, AV.strips, shpPs] using h⟩
  refine tcalls_walk Try.f25 _ [.cell 6 58] Try.func25 rfl rfl rfl mixed (Nat.le_of_ble_eq_true rfl) rfl fun hlen => ?_
  repeat' (first | (simp -dsimp only [↓reduceIte, go_sem, g]) | (refine arr_intro fun _ => ?_) | (refine later_intro ⟨keeps_nil, ?_⟩) | (refine later_intro ⟨keeps_refl, ?_⟩) | (with_reducible refine keeps_go ?_ ?_; focus (first | (simp [keeps_cons, keeps_none, objs_app, objs_app0]; done) | (simp only [keeps_cons, keeps_none, objs_app0, objs_app, and_true]; first | rfl | exact ⟨rfl, rfl⟩ | exact ⟨rfl, rfl, rfl⟩))) | (with_reducible refine (And.intro (a := keeps _ _ _) ?_ ?_); focus (first | (simp [keeps_cons, keeps_none, objs_app, objs_app0]; done) | (simp only [keeps_cons, keeps_none, objs_app0, objs_app, and_true]; first | rfl | exact ⟨rfl, rfl⟩ | exact ⟨rfl, rfl, rfl⟩))) | (refine both_ways ?_ ?_) | (rw [wrap_i64 (by omega) (by omega)]) | (refine guardV_split (fun h => ?_) (fun h => ?_) <;> (try rw [h]) <;> (try simp at h) <;> (try (exfalso; omega))) | (refine build_parts (ps := [.num o, .num x.num, .num x.kind, .num x.target, .txt c, .sgn, .sgn]) rfl rfl (by decide) ?_) | (refine shape_c (ps := [.num o, .num x.num, .num x.kind, .num x.target, .txt c, .sgn, .sgn]) ⟨by decide, by decide⟩ (by intro p hp; simp only [List.mem_cons, List.not_mem_nil, or_false] at hp; rcases hp with rfl | rfl | rfl | rfl | rfl | rfl | rfl <;> first | exact trivial | assumption) (by simp) ?_))
  exact fin _ _ (Ext.app _ _) hK
def askS (k o : Int) (tk : Tk) (l : List Int) : Shp := if k = 5 ∨ k = 7 ∨ k = 8 then shpOf k [.num o, .lst tk l] else shp0
theorem ask31_c {k o : Int} {tk : Tk} {l : List Int} (ho : Rng o) (hl : l.length ≤ 10000) (hr : ∀ n ∈ l, Rng n)
    (hK : K (.agg (shpPs (askS k o tk l))) σ) : TCalls Try.prog 28 [.int .i64 k, .int .i64 o, .slice tk (l.map (AV.int .i64))] σ K := by
  refine TCalls.drop ?_
  have g : ∀ v w p, cellAt ((σ.app [.cells v]).set σ.objs.length (.cells w)) σ.objs.length p = w.at p := fun v w p => cellAt_known (by simp [AST.set, AST.app]) p
  have fin : ∀ s' x, Ext σ s' → K (.agg (shpPs x)) σ → Ext σ s' ∧ (AV.agg (shpPs x)).noRef = true ∧ K (AV.agg (shpPs x)).strip σ := fun s' x hx h => ⟨hx, by simp [AV.noRef, AV.noRefs, shpPs], by simpa [AV.strip, AV.strips, shpPs] using h⟩
  have q5 : k ≠ 5 → (k != 5) = true := fun h => by simpa using h
  have q7 : k ≠ 7 → (k != 7) = true := fun h => by simpa using h
  have q8 : k ≠ 8 → (k != 8) = true := fun h => by simpa using h
  by_cases hk : k = 5 ∨ k = 7 ∨ k = 8
  · have e : askS k o tk l = shpOf k [.num o, .lst tk l] := by unfold askS; rw [if_pos hk]
    rw [e] at hK
    have hkr : Rng k := ⟨by omega, by omega⟩
    refine tcalls_walk Try.f28 _ [.cell 6 58] Try.func28 rfl rfl rfl mixed (Nat.le_of_ble_eq_true rfl) rfl fun hlen => ?_
    rcases hk with hk | hk | hk
    all_goals
      subst hk
      repeat' (first | (simp -dsimp only [↓reduceIte, go_sem, g]) | (refine arr_intro fun _ => ?_) | (refine later_intro ⟨keeps_nil, ?_⟩) | (refine later_intro ⟨keeps_refl, ?_⟩) | (with_reducible refine keeps_go ?_ ?_; focus (first | (simp [keeps_cons, keeps_none, objs_app, objs_app0]; done) | (simp only [keeps_cons, keeps_none, objs_app0, objs_app, and_true]; first | rfl | exact ⟨rfl, rfl⟩ | exact ⟨rfl, rfl, rfl⟩))) | (with_reducible refine (And.intro (a := keeps _ _ _) ?_ ?_); focus (first | (simp [keeps_cons, keeps_none, objs_app, objs_app0]; done) | (simp only [keeps_cons, keeps_none, objs_app0, objs_app, and_true]; first | rfl | exact ⟨rfl, rfl⟩ | exact ⟨rfl, rfl, rfl⟩))) | (refine both_ways ?_ ?_) | (rw [wrap_i64 (by omega) (by omega)]) | (refine guardV_split (fun h => ?_) (fun h => ?_) <;> (try rw [h]) <;> (try simp at h) <;> (try (exfalso; omega))) | (refine build_parts (ps := [.num o, .lst tk l]) rfl rfl (by decide) ?_) | (refine shape_c (ps := [.num o, .lst tk l]) hkr (by intro p hp; simp only [List.mem_cons, List.not_mem_nil, or_false] at hp; rcases hp with rfl | rfl <;> first | exact ⟨hl, hr⟩ | assumption) (by simp) ?_))
      exact fin _ _ (Ext.app _ _) hK
  · have e : askS k o tk l = shp0 := by unfold askS; rw [if_neg hk]
    rw [e] at hK
    have d5 := q5 (by omega)
    have d7 := q7 (by omega)
    have d8 := q8 (by omega)
    refine tcalls_walk Try.f28 _ [.cell 6 58] Try.func28 rfl rfl rfl mixed (Nat.le_of_ble_eq_true rfl) rfl fun hlen => ?_
    repeat' (first | (simp -dsimp only [↓reduceIte, go_sem, g, d5, d7, d8]) | (refine arr_intro fun _ => ?_) | (refine later_intro ⟨keeps_nil, ?_⟩) | (refine later_intro ⟨keeps_refl, ?_⟩) | (with_reducible refine keeps_go ?_ ?_; focus (first | (simp [keeps_cons, keeps_none, objs_app, objs_app0]; done) | (simp only [keeps_cons, keeps_none, objs_app0, objs_app, and_true]; first | rfl | exact ⟨rfl, rfl⟩ | exact ⟨rfl, rfl, rfl⟩))) | (with_reducible refine (And.intro (a := keeps _ _ _) ?_ ?_); focus (first | (simp [keeps_cons, keeps_none, objs_app, objs_app0]; done) | (simp only [keeps_cons, keeps_none, objs_app0, objs_app, and_true]; first | rfl | exact ⟨rfl, rfl⟩ | exact ⟨rfl, rfl, rfl⟩))) | (refine both_ways ?_ ?_) | (rw [wrap_i64 (by omega) (by omega)]) | (refine guardV_split (fun h => ?_) (fun h => ?_) <;> (try rw [h]) <;> (try simp at h) <;> (try (exfalso; omega))))
    exact fin _ _ (Ext.app _ _) hK
def smallS (k o : Int) : Shp := if k = 9 then shpOf 9 [.num o] else if k = 11 then shpOf 11 [.num o, .sgn] else shp0
theorem small31_c {k o : Int} (ho : Rng o) (hK : K (.agg (shpPs (smallS k o))) σ) : TCalls Try.prog 30 [.int .i64 k, .int .i64 o] σ K := by
  refine TCalls.drop ?_
  have g : ∀ v w p, cellAt ((σ.app [.cells v]).set σ.objs.length (.cells w)) σ.objs.length p = w.at p := fun v w p => cellAt_known (by simp [AST.set, AST.app]) p
  have fin : ∀ s' x, Ext σ s' → K (.agg (shpPs x)) σ → Ext σ s' ∧ (AV.agg (shpPs x)).noRef = true ∧ K (AV.agg (shpPs x)).strip σ := fun s' x hx h => ⟨hx, by simp [AV.noRef, AV.noRefs, shpPs], by simpa [AV.strip, AV.strips, shpPs] using h⟩
  by_cases h9 : k = 9
  · have e : smallS k o = shpOf 9 [.num o] := by unfold smallS; rw [if_pos h9]
    rw [e] at hK
    subst h9
    refine tcalls_walk Try.f30 _ [.cell 4 58] Try.func30 rfl rfl rfl mixed (Nat.le_of_ble_eq_true rfl) rfl fun hlen => ?_
    repeat' (first | (simp -dsimp only [↓reduceIte, go_sem, g]) | (refine arr_intro fun _ => ?_) | (refine later_intro ⟨keeps_nil, ?_⟩) | (refine later_intro ⟨keeps_refl, ?_⟩) | (with_reducible refine keeps_go ?_ ?_; focus (first | (simp [keeps_cons, keeps_none, objs_app, objs_app0]; done) | (simp only [keeps_cons, keeps_none, objs_app0, objs_app, and_true]; first | rfl | exact ⟨rfl, rfl⟩ | exact ⟨rfl, rfl, rfl⟩))) | (with_reducible refine (And.intro (a := keeps _ _ _) ?_ ?_); focus (first | (simp [keeps_cons, keeps_none, objs_app, objs_app0]; done) | (simp only [keeps_cons, keeps_none, objs_app0, objs_app, and_true]; first | rfl | exact ⟨rfl, rfl⟩ | exact ⟨rfl, rfl, rfl⟩))) | (refine both_ways ?_ ?_) | (rw [wrap_i64 (by omega) (by omega)]) | (refine guardV_split (fun h => ?_) (fun h => ?_) <;> (try rw [h]) <;> (try simp at h) <;> (try (exfalso; omega))) | (refine build_parts (ps := [.num o]) rfl rfl (by decide) ?_) | (refine shape_c (ps := [.num o]) ⟨by decide, by decide⟩ (by intro p hp; simp only [List.mem_cons, List.not_mem_nil, or_false] at hp; subst hp; assumption) (by simp) ?_))
    exact fin _ _ (Ext.app _ _) hK
  by_cases h11 : k = 11
  · have e : smallS k o = shpOf 11 [.num o, .sgn] := by unfold smallS; rw [if_neg h9, if_pos h11]
    rw [e] at hK
    subst h11
    refine tcalls_walk Try.f30 _ [.cell 4 58] Try.func30 rfl rfl rfl mixed (Nat.le_of_ble_eq_true rfl) rfl fun hlen => ?_
    repeat' (first | (simp -dsimp only [↓reduceIte, go_sem, g]) | (refine arr_intro fun _ => ?_) | (refine later_intro ⟨keeps_nil, ?_⟩) | (refine later_intro ⟨keeps_refl, ?_⟩) | (with_reducible refine keeps_go ?_ ?_; focus (first | (simp [keeps_cons, keeps_none, objs_app, objs_app0]; done) | (simp only [keeps_cons, keeps_none, objs_app0, objs_app, and_true]; first | rfl | exact ⟨rfl, rfl⟩ | exact ⟨rfl, rfl, rfl⟩))) | (with_reducible refine (And.intro (a := keeps _ _ _) ?_ ?_); focus (first | (simp [keeps_cons, keeps_none, objs_app, objs_app0]; done) | (simp only [keeps_cons, keeps_none, objs_app0, objs_app, and_true]; first | rfl | exact ⟨rfl, rfl⟩ | exact ⟨rfl, rfl, rfl⟩))) | (refine both_ways ?_ ?_) | (rw [wrap_i64 (by omega) (by omega)]) | (refine guardV_split (fun h => ?_) (fun h => ?_) <;> (try rw [h]) <;> (try simp at h) <;> (try (exfalso; omega))) | (refine build_parts (ps := [.num o, .sgn]) rfl rfl (by decide) ?_) | (refine shape_c (ps := [.num o, .sgn]) ⟨by decide, by decide⟩ (by intro p hp; simp only [List.mem_cons, List.not_mem_nil, or_false] at hp; rcases hp with rfl | rfl <;> first | exact trivial | assumption) (by simp) ?_))
    exact fin _ _ (Ext.app _ _) hK
  · have e : smallS k o = shp0 := by unfold smallS; rw [if_neg h9, if_neg h11]
    rw [e] at hK
    have d9 : (k == 9) = false := by simpa using h9
    have d11 : (k == 11) = false := by simpa using h11
    refine tcalls_walk Try.f30 _ [.cell 4 58] Try.func30 rfl rfl rfl mixed (Nat.le_of_ble_eq_true rfl) rfl fun hlen => ?_
    repeat' (first | (simp -dsimp only [↓reduceIte, go_sem, g, d9, d11]) | (refine arr_intro fun _ => ?_) | (refine later_intro ⟨keeps_nil, ?_⟩) | (refine later_intro ⟨keeps_refl, ?_⟩) | (with_reducible refine keeps_go ?_ ?_; focus (first | (simp [keeps_cons, keeps_none, objs_app, objs_app0]; done) | (simp only [keeps_cons, keeps_none, objs_app0, objs_app, and_true]; first | rfl | exact ⟨rfl, rfl⟩ | exact ⟨rfl, rfl, rfl⟩))) | (with_reducible refine (And.intro (a := keeps _ _ _) ?_ ?_); focus (first | (simp [keeps_cons, keeps_none, objs_app, objs_app0]; done) | (simp only [keeps_cons, keeps_none, objs_app0, objs_app, and_true]; first | rfl | exact ⟨rfl, rfl⟩ | exact ⟨rfl, rfl, rfl⟩))) | (refine both_ways ?_ ?_) | (rw [wrap_i64 (by omega) (by omega)]) | (refine guardV_split (fun h => ?_) (fun h => ?_) <;> (try rw [h]) <;> (try simp at h) <;> (try (exfalso; omega))))
    exact fin _ _ (Ext.app _ _) hK
end
attribute [local go_sem] Try.underlying9
theorem bI5 {a b c d e : Int} {KV : AV → Prop} (h : KV (.slice .full ([a, b, c, d, e].map (AV.int .i64)))) : buildSliceW Try.prog 50 5 [(0, .int .i64 a), (1, .int .i64 b), (2, .int .i64 c), (3, .int .i64 d), (4, .int .i64 e)] KV :=
  build_slice E31 rfl (by decide) (by intro v hv; simp at hv; rcases hv with rfl | rfl | rfl | rfl | rfl <;> exact partInt) (by simpa using h)
section
variable {σ : AST} {K : AV → AST → Prop}
theorem rtext_c {n : Int} (h0 : Rng n) (h : n ≤ 4398046511104) (hK : K (.int .i64 (tlen n)) σ) : TCalls Try.prog 60 [.int .i64 n] σ K := by
  by_cases hn : n < 0
  · have e : tlen n = 2 := by
      have : max n 0 = 0 := by omega
      unfold tlen nlen
      rw [this, numS, if_neg (by decide)]
      rw [show (0 : Int).natAbs = 0 from rfl, dg_small (by decide)]
      rfl
    rw [e] at hK
    have d0 : (dg 0).length = 1 := by rw [dg_small (by decide)]; rfl
    have w : IntKind.i64.wrap (IntKind.i64.wrap (((dg 0).length : Nat) + 1) + 0) = ((2 : Nat) : Int) := by rw [d0]; rfl
    refine tcalls_walk Try.f60 _ [.tmp 2] Try.func60 rfl rfl rfl mixed (Nat.le_of_ble_eq_true rfl) rfl fun hlen => ?_
    repeat' (first | (simp -dsimp only [↓reduceIte, go_sem, hn]) | (refine arr_intro fun _ => ?_) | (refine later_intro ⟨keeps_nil, ?_⟩) | (refine later_intro ⟨keeps_refl, ?_⟩) | (with_reducible refine keeps_go ?_ ?_; focus (first | (simp [keeps_cons, keeps_none, objs_app, objs_app0]; done) | (simp only [keeps_cons, keeps_none, objs_app0, objs_app, and_true]; first | rfl | exact ⟨rfl, rfl⟩ | exact ⟨rfl, rfl, rfl⟩))) | (with_reducible refine (And.intro (a := keeps _ _ _) ?_ ?_); focus (first | (simp [keeps_cons, keeps_none, objs_app, objs_app0]; done) | (simp only [keeps_cons, keeps_none, objs_app0, objs_app, and_true]; first | rfl | exact ⟨rfl, rfl⟩ | exact ⟨rfl, rfl, rfl⟩))) | (refine both_ways ?_ ?_) | (rw [wrap_i64 (by omega) (by omega)]) | (refine guardV_split (fun h => ?_) (fun h => ?_) <;> (try rw [h]) <;> (try simp at h) <;> (try (exfalso; omega))) | (refine L01.Digits_i (by decide) (by decide) ?_))
    rw [← w] at hK
    exact hK
  · have hm : max n 0 = n := by omega
    have hl := nlen_le (n := n) h0
    have e1 : nlen n = (dg n.toNat).length + 1 := by
      unfold nlen numS
      rw [if_neg hn, show n.natAbs = n.toNat by omega]
      simp
    have e : ((tlen n : Nat) : Int) = ((dg n.toNat).length : Nat) + 1 + n := by unfold tlen; rw [hm, e1]; omega
    have w1 : IntKind.i64.wrap (((dg n.toNat).length : Nat) + 1) = ((dg n.toNat).length : Nat) + 1 := wrap_i64 (by omega) (by omega)
    have w2 : IntKind.i64.wrap (((dg n.toNat).length : Nat) + 1 + n) = ((dg n.toNat).length : Nat) + 1 + n := wrap_i64 (by omega) (by omega)
    rw [e] at hK
    refine tcalls_walk Try.f60 _ [.tmp 2] Try.func60 rfl rfl rfl mixed (Nat.le_of_ble_eq_true rfl) rfl fun hlen => ?_
    repeat' (first | (simp -dsimp only [↓reduceIte, go_sem, hn, w1, w2]) | (refine arr_intro fun _ => ?_) | (refine later_intro ⟨keeps_nil, ?_⟩) | (refine later_intro ⟨keeps_refl, ?_⟩) | (with_reducible refine keeps_go ?_ ?_; focus (first | (simp [keeps_cons, keeps_none, objs_app, objs_app0]; done) | (simp only [keeps_cons, keeps_none, objs_app0, objs_app, and_true]; first | rfl | exact ⟨rfl, rfl⟩ | exact ⟨rfl, rfl, rfl⟩))) | (with_reducible refine (And.intro (a := keeps _ _ _) ?_ ?_); focus (first | (simp [keeps_cons, keeps_none, objs_app, objs_app0]; done) | (simp only [keeps_cons, keeps_none, objs_app0, objs_app, and_true]; first | rfl | exact ⟨rfl, rfl⟩ | exact ⟨rfl, rfl, rfl⟩))) | (refine both_ways ?_ ?_) | (rw [wrap_i64 (by omega) (by omega)]) | (refine guardV_split (fun h => ?_) (fun h => ?_) <;> (try rw [h]) <;> (try simp at h) <;> (try (exfalso; omega))) | (refine L01.Digits_i (by omega) (by omega) ?_))
    exact hK
theorem llen_flat {l : List Int} : (l.flatMap numS).length = llen l := by
  induction l with
  | nil => rfl
  | cons a l ih => rw [List.flatMap_cons, List.length_append, ih]; simp [llen, nlen]
theorem rints_c {l : List Int} {tk : Tk} (hl : InI l) (hn : l.length ≤ 1000000) (hK : K (.int .i64 (llen l)) σ) : TCalls Try.prog 44 [.slice tk (l.map (AV.int .i64))] σ K := by
  refine tcalls_walk Try.f44 _ [.tmp 2] Try.func44 rfl rfl rfl mixed (Nat.le_of_ble_eq_true rfl) rfl fun hlen => ?_
  have e := llen_flat (l := l)
  repeat' (first | (simp -dsimp only [↓reduceIte, go_sem, e]) | (refine arr_intro fun _ => ?_) | (refine later_intro ⟨keeps_nil, ?_⟩) | (refine later_intro ⟨keeps_refl, ?_⟩) | (with_reducible refine keeps_go ?_ ?_; focus (first | (simp [keeps_cons, keeps_none, objs_app, objs_app0]; done) | (simp only [keeps_cons, keeps_none, objs_app0, objs_app, and_true]; first | rfl | exact ⟨rfl, rfl⟩ | exact ⟨rfl, rfl, rfl⟩))) | (with_reducible refine (And.intro (a := keeps _ _ _) ?_ ?_); focus (first | (simp [keeps_cons, keeps_none, objs_app, objs_app0]; done) | (simp only [keeps_cons, keeps_none, objs_app0, objs_app, and_true]; first | rfl | exact ⟨rfl, rfl⟩ | exact ⟨rfl, rfl, rfl⟩))) | (refine both_ways ?_ ?_) | (rw [wrap_i64 (by omega) (by omega)]) | (refine guardV_split (fun h => ?_) (fun h => ?_) <;> (try rw [h]) <;> (try simp at h) <;> (try (exfalso; omega))) | (refine refInts_c hl hn ?_))
  exact hK
theorem rput_c {o n c : Int} (ho : Rng o) (hn : Rng n) (hr : Rng c) (hc : c ≤ 4398046511104) (hK : K (.agg (shpPs (shpOf 4 [.num o, .num n, .txt c, .sgn]))) σ) : TCalls Try.prog 21 [.int .i64 o, .int .i64 n, .int .i64 c] σ K := by
  refine TCalls.drop ?_
  have g : ∀ v w p, cellAt ((σ.app [.cells v]).set σ.objs.length (.cells w)) σ.objs.length p = w.at p := fun v w p => cellAt_known (by simp [AST.set, AST.app]) p
  have fin : ∀ s' x, Ext σ s' → K (.agg (shpPs x)) σ → Ext σ s' ∧ (AV.agg (shpPs x)).noRef = true ∧ K (AV.agg (shpPs x)).strip σ := fun s' x hx h => ⟨hx, by simp [AV.noRef, AV.noRefs, shpPs], by simpa [AV.strip, AV.strips, shpPs] using h⟩
  have hs : ((nlen 4 + lens [.num o, .num n, .txt c, .sgn] : Nat) : Int) = ((llen [4, o, n] : Nat) : Int) + (tlen c : Nat) + 35 := by simp only [lens, llen, Part.len, List.map_cons, List.map_nil, List.sum_cons, List.sum_nil]; omega
  have hb0 := nlen_le (n := 4) (by first | assumption | exact ⟨by decide, by decide⟩)
  have hb1 := nlen_le (n := o) (by first | assumption | exact ⟨by decide, by decide⟩)
  have hb2 := nlen_le (n := n) (by first | assumption | exact ⟨by decide, by decide⟩)
  have hL : llen [4, o, n] ≤ 200 := by simp only [llen, List.map_cons, List.map_nil, List.sum_cons, List.sum_nil]; omega
  have hT : tlen c ≤ 4398046600000 := by have := nlen_le (n := max c 0) ⟨by omega, by omega⟩; unfold tlen; omega
  have he : shpOf 4 [.num o, .num n, .txt c, .sgn] = ⟨4, ((llen [4, o, n] : Nat) : Int) + (tlen c : Nat) + 35⟩ := by unfold shpOf; rw [hs]
  have w1 : IntKind.i64.wrap (((llen [4, o, n] : Nat) : Int) + (tlen c : Nat)) = ((llen [4, o, n] : Nat) : Int) + (tlen c : Nat) := wrap_i64 (by omega) (by omega)
  have w2 : IntKind.i64.wrap (((llen [4, o, n] : Nat) : Int) + (tlen c : Nat) + 35) = ((llen [4, o, n] : Nat) : Int) + (tlen c : Nat) + 35 := wrap_i64 (by omega) (by omega)
  rw [he] at hK
  refine tcalls_walk Try.f21 _ [.cell 6 58] Try.func21 rfl rfl rfl mixed (Nat.le_of_ble_eq_true rfl) rfl fun hlen => ?_
  repeat' (first | (simp -dsimp only [↓reduceIte, go_sem, g, w1, w2]) | (refine arr_intro fun _ => ?_) | (refine later_intro ⟨keeps_nil, ?_⟩) | (refine later_intro ⟨keeps_refl, ?_⟩) | (with_reducible refine keeps_go ?_ ?_; focus (first | (simp [keeps_cons, keeps_none, objs_app, objs_app0]; done) | (simp only [keeps_cons, keeps_none, objs_app0, objs_app, and_true]; first | rfl | exact ⟨rfl, rfl⟩ | exact ⟨rfl, rfl, rfl⟩))) | (with_reducible refine (And.intro (a := keeps _ _ _) ?_ ?_); focus (first | (simp [keeps_cons, keeps_none, objs_app, objs_app0]; done) | (simp only [keeps_cons, keeps_none, objs_app0, objs_app, and_true]; first | rfl | exact ⟨rfl, rfl⟩ | exact ⟨rfl, rfl, rfl⟩))) | (refine both_ways ?_ ?_) | (rw [wrap_i64 (by omega) (by omega)]) | (refine guardV_split (fun h => ?_) (fun h => ?_) <;> (try rw [h]) <;> (try simp at h) <;> (try (exfalso; omega))) | (refine bI3 ?_) | (refine rints_c (l := [4, o, n]) (by intro n hn; simp only [List.mem_cons, List.not_mem_nil, or_false] at hn; rcases hn with rfl | rfl | rfl <;> first | assumption | exact ⟨by decide, by decide⟩) (by simp) ?_) | (refine rtext_c (by assumption) (by assumption) ?_))
  exact fin _ _ (Ext.app _ _) hK
theorem rcommit_c {o c : Int} (ho : Rng o) (hr : Rng c) (hc : c ≤ 4398046511104) (hK : K (.agg (shpPs (shpOf 3 [.num o, .txt c, .sgn]))) σ) : TCalls Try.prog 32 [.int .i64 o, .int .i64 c] σ K := by
  refine TCalls.drop ?_
  have g : ∀ v w p, cellAt ((σ.app [.cells v]).set σ.objs.length (.cells w)) σ.objs.length p = w.at p := fun v w p => cellAt_known (by simp [AST.set, AST.app]) p
  have fin : ∀ s' x, Ext σ s' → K (.agg (shpPs x)) σ → Ext σ s' ∧ (AV.agg (shpPs x)).noRef = true ∧ K (AV.agg (shpPs x)).strip σ := fun s' x hx h => ⟨hx, by simp [AV.noRef, AV.noRefs, shpPs], by simpa [AV.strip, AV.strips, shpPs] using h⟩
  have hs : ((nlen 3 + lens [.num o, .txt c, .sgn] : Nat) : Int) = ((llen [3, o] : Nat) : Int) + (tlen c : Nat) + 35 := by simp only [lens, llen, Part.len, List.map_cons, List.map_nil, List.sum_cons, List.sum_nil]; omega
  have hb0 := nlen_le (n := 3) (by first | assumption | exact ⟨by decide, by decide⟩)
  have hb1 := nlen_le (n := o) (by first | assumption | exact ⟨by decide, by decide⟩)
  have hL : llen [3, o] ≤ 200 := by simp only [llen, List.map_cons, List.map_nil, List.sum_cons, List.sum_nil]; omega
  have hT : tlen c ≤ 4398046600000 := by have := nlen_le (n := max c 0) ⟨by omega, by omega⟩; unfold tlen; omega
  have he : shpOf 3 [.num o, .txt c, .sgn] = ⟨3, ((llen [3, o] : Nat) : Int) + (tlen c : Nat) + 35⟩ := by unfold shpOf; rw [hs]
  have w1 : IntKind.i64.wrap (((llen [3, o] : Nat) : Int) + (tlen c : Nat)) = ((llen [3, o] : Nat) : Int) + (tlen c : Nat) := wrap_i64 (by omega) (by omega)
  have w2 : IntKind.i64.wrap (((llen [3, o] : Nat) : Int) + (tlen c : Nat) + 35) = ((llen [3, o] : Nat) : Int) + (tlen c : Nat) + 35 := wrap_i64 (by omega) (by omega)
  rw [he] at hK
  refine tcalls_walk Try.f32 _ [.cell 4 58] Try.func32 rfl rfl rfl mixed (Nat.le_of_ble_eq_true rfl) rfl fun hlen => ?_
  repeat' (first | (simp -dsimp only [↓reduceIte, go_sem, g, w1, w2]) | (refine arr_intro fun _ => ?_) | (refine later_intro ⟨keeps_nil, ?_⟩) | (refine later_intro ⟨keeps_refl, ?_⟩) | (with_reducible refine keeps_go ?_ ?_; focus (first | (simp [keeps_cons, keeps_none, objs_app, objs_app0]; done) | (simp only [keeps_cons, keeps_none, objs_app0, objs_app, and_true]; first | rfl | exact ⟨rfl, rfl⟩ | exact ⟨rfl, rfl, rfl⟩))) | (with_reducible refine (And.intro (a := keeps _ _ _) ?_ ?_); focus (first | (simp [keeps_cons, keeps_none, objs_app, objs_app0]; done) | (simp only [keeps_cons, keeps_none, objs_app0, objs_app, and_true]; first | rfl | exact ⟨rfl, rfl⟩ | exact ⟨rfl, rfl, rfl⟩))) | (refine both_ways ?_ ?_) | (rw [wrap_i64 (by omega) (by omega)]) | (refine guardV_split (fun h => ?_) (fun h => ?_) <;> (try rw [h]) <;> (try simp at h) <;> (try (exfalso; omega))) | (refine bI2 ?_) | (refine rints_c (l := [3, o]) (by intro n hn; simp only [List.mem_cons, List.not_mem_nil, or_false] at hn; rcases hn with rfl | rfl <;> first | assumption | exact ⟨by decide, by decide⟩) (by simp) ?_) | (refine rtext_c (by assumption) (by assumption) ?_))
  exact fin _ _ (Ext.app _ _) hK
theorem rversion_c {o n c : Int} (ho : Rng o) (hn : Rng n) (hr : Rng c) (hc : c ≤ 4398046511104) (hK : K (.agg (shpPs (shpOf 10 [.num o, .num n, .txt c, .sgn, .sgn]))) σ) : TCalls Try.prog 34 [.int .i64 o, .int .i64 n, .int .i64 c] σ K := by
  refine TCalls.drop ?_
  have g : ∀ v w p, cellAt ((σ.app [.cells v]).set σ.objs.length (.cells w)) σ.objs.length p = w.at p := fun v w p => cellAt_known (by simp [AST.set, AST.app]) p
  have fin : ∀ s' x, Ext σ s' → K (.agg (shpPs x)) σ → Ext σ s' ∧ (AV.agg (shpPs x)).noRef = true ∧ K (AV.agg (shpPs x)).strip σ := fun s' x hx h => ⟨hx, by simp [AV.noRef, AV.noRefs, shpPs], by simpa [AV.strip, AV.strips, shpPs] using h⟩
  have hs : ((nlen 10 + lens [.num o, .num n, .txt c, .sgn, .sgn] : Nat) : Int) = ((llen [10, o, n] : Nat) : Int) + (tlen c : Nat) + 70 := by simp only [lens, llen, Part.len, List.map_cons, List.map_nil, List.sum_cons, List.sum_nil]; omega
  have hb0 := nlen_le (n := 10) (by first | assumption | exact ⟨by decide, by decide⟩)
  have hb1 := nlen_le (n := o) (by first | assumption | exact ⟨by decide, by decide⟩)
  have hb2 := nlen_le (n := n) (by first | assumption | exact ⟨by decide, by decide⟩)
  have hL : llen [10, o, n] ≤ 200 := by simp only [llen, List.map_cons, List.map_nil, List.sum_cons, List.sum_nil]; omega
  have hT : tlen c ≤ 4398046600000 := by have := nlen_le (n := max c 0) ⟨by omega, by omega⟩; unfold tlen; omega
  have he : shpOf 10 [.num o, .num n, .txt c, .sgn, .sgn] = ⟨10, ((llen [10, o, n] : Nat) : Int) + (tlen c : Nat) + 70⟩ := by unfold shpOf; rw [hs]
  have w1 : IntKind.i64.wrap (((llen [10, o, n] : Nat) : Int) + (tlen c : Nat)) = ((llen [10, o, n] : Nat) : Int) + (tlen c : Nat) := wrap_i64 (by omega) (by omega)
  have w2 : IntKind.i64.wrap (((llen [10, o, n] : Nat) : Int) + (tlen c : Nat) + 70) = ((llen [10, o, n] : Nat) : Int) + (tlen c : Nat) + 70 := wrap_i64 (by omega) (by omega)
  rw [he] at hK
  refine tcalls_walk Try.f34 _ [.cell 6 58] Try.func34 rfl rfl rfl mixed (Nat.le_of_ble_eq_true rfl) rfl fun hlen => ?_
  repeat' (first | (simp -dsimp only [↓reduceIte, go_sem, g, w1, w2]) | (refine arr_intro fun _ => ?_) | (refine later_intro ⟨keeps_nil, ?_⟩) | (refine later_intro ⟨keeps_refl, ?_⟩) | (with_reducible refine keeps_go ?_ ?_; focus (first | (simp [keeps_cons, keeps_none, objs_app, objs_app0]; done) | (simp only [keeps_cons, keeps_none, objs_app0, objs_app, and_true]; first | rfl | exact ⟨rfl, rfl⟩ | exact ⟨rfl, rfl, rfl⟩))) | (with_reducible refine (And.intro (a := keeps _ _ _) ?_ ?_); focus (first | (simp [keeps_cons, keeps_none, objs_app, objs_app0]; done) | (simp only [keeps_cons, keeps_none, objs_app0, objs_app, and_true]; first | rfl | exact ⟨rfl, rfl⟩ | exact ⟨rfl, rfl, rfl⟩))) | (refine both_ways ?_ ?_) | (rw [wrap_i64 (by omega) (by omega)]) | (refine guardV_split (fun h => ?_) (fun h => ?_) <;> (try rw [h]) <;> (try simp at h) <;> (try (exfalso; omega))) | (refine bI3 ?_) | (refine rints_c (l := [10, o, n]) (by intro n hn; simp only [List.mem_cons, List.not_mem_nil, or_false] at hn; rcases hn with rfl | rfl | rfl <;> first | assumption | exact ⟨by decide, by decide⟩) (by simp) ?_) | (refine rtext_c (by assumption) (by assumption) ?_))
  exact fin _ _ (Ext.app _ _) hK
theorem rsubmit_c {o c : Int} {x : Sub} (ho : Rng o) (h1 : Rng x.num) (h2 : Rng x.kind) (h3 : Rng x.target) (hr : Rng c) (hc : c ≤ 4398046511104) (hK : K (.agg (shpPs (shpOf 1 [.num o, .num x.num, .num x.kind, .num x.target, .txt c, .sgn, .sgn]))) σ) : TCalls Try.prog 31 [.int .i64 o, subV x, .int .i64 c] σ K := by
  refine TCalls.drop ?_
  have g : ∀ v w p, cellAt ((σ.app [.cells v]).set σ.objs.length (.cells w)) σ.objs.length p = w.at p := fun v w p => cellAt_known (by simp [AST.set, AST.app]) p
  have fin : ∀ s' x, Ext σ s' → K (.agg (shpPs x)) σ → Ext σ s' ∧ (AV.agg (shpPs x)).noRef = true ∧ K (AV.agg (shpPs x)).strip σ := fun s' x hx h => ⟨hx, by simp [AV.noRef, AV.noRefs, shpPs], by simpa [AV.strip, AV.strips, shpPs] using h⟩
  have hs : ((nlen 1 + lens [.num o, .num x.num, .num x.kind, .num x.target, .txt c, .sgn, .sgn] : Nat) : Int) = ((llen [1, o, x.num, x.kind, x.target] : Nat) : Int) + (tlen c : Nat) + 70 := by simp only [lens, llen, Part.len, List.map_cons, List.map_nil, List.sum_cons, List.sum_nil]; omega
  have hb0 := nlen_le (n := 1) (by first | assumption | exact ⟨by decide, by decide⟩)
  have hb1 := nlen_le (n := o) (by first | assumption | exact ⟨by decide, by decide⟩)
  have hb2 := nlen_le (n := x.num) (by first | assumption | exact ⟨by decide, by decide⟩)
  have hb3 := nlen_le (n := x.kind) (by first | assumption | exact ⟨by decide, by decide⟩)
  have hb4 := nlen_le (n := x.target) (by first | assumption | exact ⟨by decide, by decide⟩)
  have hL : llen [1, o, x.num, x.kind, x.target] ≤ 200 := by simp only [llen, List.map_cons, List.map_nil, List.sum_cons, List.sum_nil]; omega
  have hT : tlen c ≤ 4398046600000 := by have := nlen_le (n := max c 0) ⟨by omega, by omega⟩; unfold tlen; omega
  have he : shpOf 1 [.num o, .num x.num, .num x.kind, .num x.target, .txt c, .sgn, .sgn] = ⟨1, ((llen [1, o, x.num, x.kind, x.target] : Nat) : Int) + (tlen c : Nat) + 70⟩ := by unfold shpOf; rw [hs]
  have w1 : IntKind.i64.wrap (((llen [1, o, x.num, x.kind, x.target] : Nat) : Int) + (tlen c : Nat)) = ((llen [1, o, x.num, x.kind, x.target] : Nat) : Int) + (tlen c : Nat) := wrap_i64 (by omega) (by omega)
  have w2 : IntKind.i64.wrap (((llen [1, o, x.num, x.kind, x.target] : Nat) : Int) + (tlen c : Nat) + 70) = ((llen [1, o, x.num, x.kind, x.target] : Nat) : Int) + (tlen c : Nat) + 70 := wrap_i64 (by omega) (by omega)
  rw [he] at hK
  refine tcalls_walk Try.f31 _ [.cell 6 58] Try.func31 rfl rfl rfl mixed (Nat.le_of_ble_eq_true rfl) rfl fun hlen => ?_
  repeat' (first | (simp -dsimp only [↓reduceIte, go_sem, g, w1, w2]) | (refine arr_intro fun _ => ?_) | (refine later_intro ⟨keeps_nil, ?_⟩) | (refine later_intro ⟨keeps_refl, ?_⟩) | (with_reducible refine keeps_go ?_ ?_; focus (first | (simp [keeps_cons, keeps_none, objs_app, objs_app0]; done) | (simp only [keeps_cons, keeps_none, objs_app0, objs_app, and_true]; first | rfl | exact ⟨rfl, rfl⟩ | exact ⟨rfl, rfl, rfl⟩))) | (with_reducible refine (And.intro (a := keeps _ _ _) ?_ ?_); focus (first | (simp [keeps_cons, keeps_none, objs_app, objs_app0]; done) | (simp only [keeps_cons, keeps_none, objs_app0, objs_app, and_true]; first | rfl | exact ⟨rfl, rfl⟩ | exact ⟨rfl, rfl, rfl⟩))) | (refine both_ways ?_ ?_) | (rw [wrap_i64 (by omega) (by omega)]) | (refine guardV_split (fun h => ?_) (fun h => ?_) <;> (try rw [h]) <;> (try simp at h) <;> (try (exfalso; omega))) | (refine bI5 ?_) | (refine rints_c (l := [1, o, x.num, x.kind, x.target]) (by intro n hn; simp only [List.mem_cons, List.not_mem_nil, or_false] at hn; rcases hn with rfl | rfl | rfl | rfl | rfl <;> first | assumption | exact ⟨by decide, by decide⟩) (by simp) ?_) | (refine rtext_c (by assumption) (by assumption) ?_))
  exact fin _ _ (Ext.app _ _) hK
theorem rask_c {k o : Int} {tk : Tk} {l : List Int} (ho : Rng o) (hl : l.length ≤ 10000) (hr : ∀ n ∈ l, Rng n)
    (hK : K (.agg (shpPs (askS k o tk l))) σ) : TCalls Try.prog 33 [.int .i64 k, .int .i64 o, .slice tk (l.map (AV.int .i64))] σ K := by
  refine TCalls.drop ?_
  have g : ∀ v w p, cellAt ((σ.app [.cells v]).set σ.objs.length (.cells w)) σ.objs.length p = w.at p := fun v w p => cellAt_known (by simp [AST.set, AST.app]) p
  have fin : ∀ s' x, Ext σ s' → K (.agg (shpPs x)) σ → Ext σ s' ∧ (AV.agg (shpPs x)).noRef = true ∧ K (AV.agg (shpPs x)).strip σ := fun s' x hx h => ⟨hx, by simp [AV.noRef, AV.noRefs, shpPs], by simpa [AV.strip, AV.strips, shpPs] using h⟩
  have q5 : k ≠ 5 → (k != 5) = true := fun h => by simpa using h
  have q7 : k ≠ 7 → (k != 7) = true := fun h => by simpa using h
  have q8 : k ≠ 8 → (k != 8) = true := fun h => by simpa using h
  by_cases hk : k = 5 ∨ k = 7 ∨ k = 8
  · have hkr : Rng k := ⟨by omega, by omega⟩
    have b1 := nlen_le hkr
    have b2 := nlen_le ho
    have b3 := llen_take hr
    have hL : llen [k, o] ≤ 200 := by simp only [llen, List.map_cons, List.map_nil, List.sum_cons, List.sum_nil]; omega
    have w1 : IntKind.i64.wrap (((llen [k, o] : Nat) : Int) + (llen l : Nat)) = ((llen [k, o] : Nat) : Int) + (llen l : Nat) := wrap_i64 (by omega) (by omega)
    have w2 : IntKind.i64.wrap (((llen [k, o] : Nat) : Int) + (llen l : Nat) + 2) = ((llen [k, o] : Nat) : Int) + (llen l : Nat) + 2 := wrap_i64 (by omega) (by omega)
    have e : askS k o tk l = ⟨k, ((llen [k, o] : Nat) : Int) + (llen l : Nat) + 2⟩ := by
      unfold askS; rw [if_pos hk]; unfold shpOf
      have : ((nlen k + lens [.num o, .lst tk l] : Nat) : Int) = ((llen [k, o] : Nat) : Int) + (llen l : Nat) + 2 := by simp only [lens, llen, Part.len, List.map_cons, List.map_nil, List.sum_cons, List.sum_nil]; omega
      rw [this]
    rw [e] at hK
    refine tcalls_walk Try.f33 _ [.cell 6 58] Try.func33 rfl rfl rfl mixed (Nat.le_of_ble_eq_true rfl) rfl fun hlen => ?_
    have hI : InI [k, o] := by intro n hn; simp only [List.mem_cons, List.not_mem_nil, or_false] at hn; rcases hn with rfl | rfl <;> assumption
    rcases hk with hk | hk | hk
    all_goals
      subst hk
      repeat' (first | (simp -dsimp only [↓reduceIte, go_sem, g, w1, w2]) | (refine arr_intro fun _ => ?_) | (refine later_intro ⟨keeps_nil, ?_⟩) | (refine later_intro ⟨keeps_refl, ?_⟩) | (with_reducible refine keeps_go ?_ ?_; focus (first | (simp [keeps_cons, keeps_none, objs_app, objs_app0]; done) | (simp only [keeps_cons, keeps_none, objs_app0, objs_app, and_true]; first | rfl | exact ⟨rfl, rfl⟩ | exact ⟨rfl, rfl, rfl⟩))) | (with_reducible refine (And.intro (a := keeps _ _ _) ?_ ?_); focus (first | (simp [keeps_cons, keeps_none, objs_app, objs_app0]; done) | (simp only [keeps_cons, keeps_none, objs_app0, objs_app, and_true]; first | rfl | exact ⟨rfl, rfl⟩ | exact ⟨rfl, rfl, rfl⟩))) | (refine both_ways ?_ ?_) | (rw [wrap_i64 (by omega) (by omega)]) | (refine guardV_split (fun h => ?_) (fun h => ?_) <;> (try rw [h]) <;> (try simp at h) <;> (try (exfalso; omega))) | (refine bI2 ?_) | (refine rints_c (l := [_, o]) hI (by simp) ?_) | (refine rints_c hr (by omega) ?_))
      exact fin _ _ (Ext.app _ _) hK
  · have e : askS k o tk l = shp0 := by unfold askS; rw [if_neg hk]
    rw [e] at hK
    have d5 := q5 (by omega)
    have d7 := q7 (by omega)
    have d8 := q8 (by omega)
    refine tcalls_walk Try.f33 _ [.cell 6 58] Try.func33 rfl rfl rfl mixed (Nat.le_of_ble_eq_true rfl) rfl fun hlen => ?_
    repeat' (first | (simp -dsimp only [↓reduceIte, go_sem, g, d5, d7, d8]) | (refine arr_intro fun _ => ?_) | (refine later_intro ⟨keeps_nil, ?_⟩) | (refine later_intro ⟨keeps_refl, ?_⟩) | (with_reducible refine keeps_go ?_ ?_; focus (first | (simp [keeps_cons, keeps_none, objs_app, objs_app0]; done) | (simp only [keeps_cons, keeps_none, objs_app0, objs_app, and_true]; first | rfl | exact ⟨rfl, rfl⟩ | exact ⟨rfl, rfl, rfl⟩))) | (with_reducible refine (And.intro (a := keeps _ _ _) ?_ ?_); focus (first | (simp [keeps_cons, keeps_none, objs_app, objs_app0]; done) | (simp only [keeps_cons, keeps_none, objs_app0, objs_app, and_true]; first | rfl | exact ⟨rfl, rfl⟩ | exact ⟨rfl, rfl, rfl⟩))) | (refine both_ways ?_ ?_) | (rw [wrap_i64 (by omega) (by omega)]) | (refine guardV_split (fun h => ?_) (fun h => ?_) <;> (try rw [h]) <;> (try simp at h) <;> (try (exfalso; omega))))
    exact fin _ _ (Ext.app _ _) hK
theorem rsmall_c {k o : Int} (ho : Rng o) (hK : K (.agg (shpPs (smallS k o))) σ) : TCalls Try.prog 35 [.int .i64 k, .int .i64 o] σ K := by
  refine TCalls.drop ?_
  have g : ∀ v w p, cellAt ((σ.app [.cells v]).set σ.objs.length (.cells w)) σ.objs.length p = w.at p := fun v w p => cellAt_known (by simp [AST.set, AST.app]) p
  have fin : ∀ s' x, Ext σ s' → K (.agg (shpPs x)) σ → Ext σ s' ∧ (AV.agg (shpPs x)).noRef = true ∧ K (AV.agg (shpPs x)).strip σ := fun s' x hx h => ⟨hx, by simp [AV.noRef, AV.noRefs, shpPs], by simpa [AV.strip, AV.strips, shpPs] using h⟩
  have b2 := nlen_le ho
  have c9 := nlen_le (n := 9) ⟨by decide, by decide⟩
  have c11 := nlen_le (n := 11) ⟨by decide, by decide⟩
  have hI : ∀ k : Int, Rng k → InI [k, o] := fun k hk => by intro n hn; simp only [List.mem_cons, List.not_mem_nil, or_false] at hn; rcases hn with rfl | rfl <;> assumption
  by_cases h9 : k = 9
  · have e : smallS k o = ⟨9, ((llen [9, o] : Nat) : Int)⟩ := by
      unfold smallS; rw [if_pos h9]; unfold shpOf
      have : ((nlen 9 + lens [.num o] : Nat) : Int) = ((llen [9, o] : Nat) : Int) := by simp only [lens, llen, Part.len, List.map_cons, List.map_nil, List.sum_cons, List.sum_nil]
      rw [this]
    rw [e] at hK
    subst h9
    refine tcalls_walk Try.f35 _ [.cell 4 58] Try.func35 rfl rfl rfl mixed (Nat.le_of_ble_eq_true rfl) rfl fun hlen => ?_
    repeat' (first | (simp -dsimp only [↓reduceIte, go_sem, g]) | (refine arr_intro fun _ => ?_) | (refine later_intro ⟨keeps_nil, ?_⟩) | (refine later_intro ⟨keeps_refl, ?_⟩) | (with_reducible refine keeps_go ?_ ?_; focus (first | (simp [keeps_cons, keeps_none, objs_app, objs_app0]; done) | (simp only [keeps_cons, keeps_none, objs_app0, objs_app, and_true]; first | rfl | exact ⟨rfl, rfl⟩ | exact ⟨rfl, rfl, rfl⟩))) | (with_reducible refine (And.intro (a := keeps _ _ _) ?_ ?_); focus (first | (simp [keeps_cons, keeps_none, objs_app, objs_app0]; done) | (simp only [keeps_cons, keeps_none, objs_app0, objs_app, and_true]; first | rfl | exact ⟨rfl, rfl⟩ | exact ⟨rfl, rfl, rfl⟩))) | (refine both_ways ?_ ?_) | (rw [wrap_i64 (by omega) (by omega)]) | (refine guardV_split (fun h => ?_) (fun h => ?_) <;> (try rw [h]) <;> (try simp at h) <;> (try (exfalso; omega))) | (refine bI2 ?_) | (refine rints_c (l := [_, o]) (hI _ ⟨by decide, by decide⟩) (by simp) ?_))
    exact fin _ _ (Ext.app _ _) hK
  by_cases h11 : k = 11
  · have hL : llen [11, o] ≤ 200 := by simp only [llen, List.map_cons, List.map_nil, List.sum_cons, List.sum_nil]; omega
    have w1 : IntKind.i64.wrap (((llen [11, o] : Nat) : Int) + 35) = ((llen [11, o] : Nat) : Int) + 35 := wrap_i64 (by omega) (by omega)
    have e : smallS k o = ⟨11, ((llen [11, o] : Nat) : Int) + 35⟩ := by
      unfold smallS; rw [if_neg h9, if_pos h11]; unfold shpOf
      have : ((nlen 11 + lens [.num o, .sgn] : Nat) : Int) = ((llen [11, o] : Nat) : Int) + 35 := by simp only [lens, llen, Part.len, List.map_cons, List.map_nil, List.sum_cons, List.sum_nil]; omega
      rw [this]
    rw [e] at hK
    subst h11
    refine tcalls_walk Try.f35 _ [.cell 4 58] Try.func35 rfl rfl rfl mixed (Nat.le_of_ble_eq_true rfl) rfl fun hlen => ?_
    repeat' (first | (simp -dsimp only [↓reduceIte, go_sem, g, w1]) | (refine arr_intro fun _ => ?_) | (refine later_intro ⟨keeps_nil, ?_⟩) | (refine later_intro ⟨keeps_refl, ?_⟩) | (with_reducible refine keeps_go ?_ ?_; focus (first | (simp [keeps_cons, keeps_none, objs_app, objs_app0]; done) | (simp only [keeps_cons, keeps_none, objs_app0, objs_app, and_true]; first | rfl | exact ⟨rfl, rfl⟩ | exact ⟨rfl, rfl, rfl⟩))) | (with_reducible refine (And.intro (a := keeps _ _ _) ?_ ?_); focus (first | (simp [keeps_cons, keeps_none, objs_app, objs_app0]; done) | (simp only [keeps_cons, keeps_none, objs_app0, objs_app, and_true]; first | rfl | exact ⟨rfl, rfl⟩ | exact ⟨rfl, rfl, rfl⟩))) | (refine both_ways ?_ ?_) | (rw [wrap_i64 (by omega) (by omega)]) | (refine guardV_split (fun h => ?_) (fun h => ?_) <;> (try rw [h]) <;> (try simp at h) <;> (try (exfalso; omega))) | (refine bI2 ?_) | (refine rints_c (l := [_, o]) (hI _ ⟨by decide, by decide⟩) (by simp) ?_))
    exact fin _ _ (Ext.app _ _) hK
  · have e : smallS k o = shp0 := by unfold smallS; rw [if_neg h9, if_neg h11]
    rw [e] at hK
    have d9 : (k == 9) = false := by simpa using h9
    have d11 : (k == 11) = false := by simpa using h11
    refine tcalls_walk Try.f35 _ [.cell 4 58] Try.func35 rfl rfl rfl mixed (Nat.le_of_ble_eq_true rfl) rfl fun hlen => ?_
    repeat' (first | (simp -dsimp only [↓reduceIte, go_sem, g, d9, d11]) | (refine arr_intro fun _ => ?_) | (refine later_intro ⟨keeps_nil, ?_⟩) | (refine later_intro ⟨keeps_refl, ?_⟩) | (with_reducible refine keeps_go ?_ ?_; focus (first | (simp [keeps_cons, keeps_none, objs_app, objs_app0]; done) | (simp only [keeps_cons, keeps_none, objs_app0, objs_app, and_true]; first | rfl | exact ⟨rfl, rfl⟩ | exact ⟨rfl, rfl, rfl⟩))) | (with_reducible refine (And.intro (a := keeps _ _ _) ?_ ?_); focus (first | (simp [keeps_cons, keeps_none, objs_app, objs_app0]; done) | (simp only [keeps_cons, keeps_none, objs_app0, objs_app, and_true]; first | rfl | exact ⟨rfl, rfl⟩ | exact ⟨rfl, rfl, rfl⟩))) | (refine both_ways ?_ ?_) | (rw [wrap_i64 (by omega) (by omega)]) | (refine guardV_split (fun h => ?_) (fun h => ?_) <;> (try rw [h]) <;> (try simp at h) <;> (try (exfalso; omega))))
    exact fin _ _ (Ext.app _ _) hK
end
attribute [local go_sem] Try.underlying3 Try.underlying5 Try.underlying123
attribute [local go_sem] fits9 fits31
structure Node where
  num : Int
  kind : Int
  data : List UInt8
  names : List (List UInt8)
  nodes : List Int
def nd0 : Node := ⟨0, 0, [], [], []⟩
def ndPs (t0 t1 : Tk) (x : Node) : List AV := [.int .i64 x.num, .int .i64 x.kind, .str x.data, .slice t0 (x.names.map AV.str), .slice t1 (x.nodes.map (AV.int .i64))]
abbrev ndV (t0 t1 : Tk) (x : Node) : AV := .agg (ndPs t0 t1 x)
theorem ndPs_0 {t0 t1 : Tk} {x : Node} : (ndPs t0 t1 x)[0]? = some (.int .i64 x.num) := nr rfl
theorem ndAt_0 {t0 t1 : Tk} {x : Node} {v : AV} : partIs Try.prog 102 (ndPs t0 t1 x) 0 v = fits Try.prog 3 v := by rw [partIs_of (o := 0) (T := 3) (by kernel_rfl)]; simp [ndPs, AV.sizes, AV.size]
theorem ndSet_0 {t0 t1 : Tk} {x : Node} {y : Int} : (ndPs t0 t1 x).set 0 (.int .i64 y) = ndPs t0 t1 { x with num := y } := nr rfl
theorem ndPs_1 {t0 t1 : Tk} {x : Node} : (ndPs t0 t1 x)[1]? = some (.int .i64 x.kind) := nr rfl
theorem ndAt_1 {t0 t1 : Tk} {x : Node} {v : AV} : partIs Try.prog 102 (ndPs t0 t1 x) 1 v = fits Try.prog 3 v := by rw [partIs_of (o := 1) (T := 3) (by kernel_rfl)]; simp [ndPs, AV.sizes, AV.size]
theorem ndSet_1 {t0 t1 : Tk} {x : Node} {y : Int} : (ndPs t0 t1 x).set 1 (.int .i64 y) = ndPs t0 t1 { x with kind := y } := nr rfl
theorem ndPs_2 {t0 t1 : Tk} {x : Node} : (ndPs t0 t1 x)[2]? = some (.str x.data) := nr rfl
theorem ndAt_2 {t0 t1 : Tk} {x : Node} {v : AV} : partIs Try.prog 102 (ndPs t0 t1 x) 2 v = fits Try.prog 9 v := by rw [partIs_of (o := 2) (T := 9) (by kernel_rfl)]; simp [ndPs, AV.sizes, AV.size]
theorem ndSet_2 {t0 t1 : Tk} {x : Node} {y : List UInt8} : (ndPs t0 t1 x).set 2 (.str y) = ndPs t0 t1 { x with data := y } := nr rfl
theorem ndPs_3 {t0 t1 : Tk} {x : Node} : (ndPs t0 t1 x)[3]? = some (.slice t0 (x.names.map AV.str)) := nr rfl
theorem ndAt_3 {t0 t1 : Tk} {x : Node} {v : AV} : partIs Try.prog 102 (ndPs t0 t1 x) 3 v = fits Try.prog 43 v := by rw [partIs_of (o := 3) (T := 43) (by kernel_rfl)]; simp [ndPs, AV.sizes, AV.size]
theorem ndSet_3 {t0 t1 : Tk} {u0 : Tk} {x : Node} {y : List (List UInt8)} : (ndPs t0 t1 x).set 3 (.slice u0 (y.map AV.str)) = ndPs u0 t1 { x with names := y } := nr rfl
theorem ndPs_4 {t0 t1 : Tk} {x : Node} : (ndPs t0 t1 x)[4]? = some (.slice t1 (x.nodes.map (AV.int .i64))) := nr rfl
theorem ndAt_4 {t0 t1 : Tk} {x : Node} {v : AV} : partIs Try.prog 102 (ndPs t0 t1 x) 4 v = fits Try.prog 50 v := by rw [partIs_of (o := 4) (T := 50) (by kernel_rfl)]; simp [ndPs, AV.sizes, AV.size]
theorem ndSet_4 {t0 t1 : Tk} {u0 : Tk} {x : Node} {y : List Int} : (ndPs t0 t1 x).set 4 (.slice u0 (y.map (AV.int .i64))) = ndPs t0 u0 { x with nodes := y } := nr rfl
theorem sizes_nd {t0 t1 : Tk} {x : Node} : AV.sizes (ndPs t0 t1 x) = 5 := by simp [ndPs, AV.sizes, AV.size]
theorem shapes_nd {t0 t1 : Tk} {x : Node} : AV.shapes (ndPs t0 t1 x) = [.leaf, .leaf, .leaf, .leaf, .leaf] := by simp [ndPs, AV.shapes, AV.shape]
theorem fits_nd {v : AV} : fits Try.prog 102 v = (v.isAgg = true ∧ v.size = 5) := fits_agg (by kernel_rfl) (by kernel_rfl)
theorem zero_nd : zeroA Try.prog 12 102 = .agg (ndPs .full .full nd0) := by kernel_rfl
theorem zt_nd : ZeroOf Try.prog 102 (.agg (ndPs .full .full nd0)) = True := eq_true ⟨_, _, rfl, rfl, rfl, rfl, rfl⟩
theorem built_nd : Built Try.prog 102 = True := eq_true (by unfold Built; rw [Try.underlying102]; decide +kernel)
/-ATTR ndPs_0 ndAt_0 ndSet_0 ndPs_1 ndAt_1 ndSet_1 ndPs_2 ndAt_2 ndSet_2 ndPs_3 ndAt_3 ndSet_3 ndPs_4 ndAt_4 ndSet_4 sizes_nd shapes_nd fits_nd zero_nd zt_nd built_nd Try.underlying102 -/
theorem fits43 {v : AV} : fits Try.prog 43 v = (v.isAgg = false ∧ v.size = 1) := fits_leaf (by kernel_rfl) (by kernel_rfl)
attribute [local go_sem] ndPs_0 ndAt_0 ndSet_0 ndPs_1 ndAt_1 ndSet_1 ndPs_2 ndAt_2 ndSet_2 ndPs_3 ndAt_3 ndSet_3 ndPs_4 ndAt_4 ndSet_4 sizes_nd fits_nd zero_nd zt_nd built_nd Try.underlying102 Try.underlying123 Try.underlying84 Try.underlying22 fits43 L21.zt46 L21.zero46 L21.agg_leaf L21.known_leaf L21.fits46 L21.p46_0 L21.p46_1 L21.p46_2 L21.p46_4 L21.p46_5
abbrev TL := L21.TLeaf
structure TNd where
  x : Node
  t : Tk
  u : Tk
def ndX (y : TNd) : AV := ndV y.t y.u y.x
def nodeOf (y : L21.Leaf) : Node := ⟨y.num, y.kind, List.replicate (max 0 (min y.size 512)).toNat 0, y.names, y.nodes⟩
theorem E52 : ElemT Try.prog 52 102 5 80 := ⟨rfl, by kernel_rfl, by kernel_rfl, ⟨_, of_eq_true zt_nd⟩, by decide⟩
theorem size_nds {l : List TNd} : ∀ v ∈ l.map ndX, v.size = 5 := by
  intro v hv; obtain ⟨x, _, rfl⟩ := List.mem_map.1 hv; simp only [ndX, AV.size, sizes_nd]
theorem append_nd {a : List TNd} {y : TNd} {tk tk2 : Tk} {σ : AST} {K : AV → AST → Prop} (hca : canApp σ tk a.length 5) (hl : a.length ≤ 5000) (hK : K (.slice (growT σ tk) ((a ++ [y]).map ndX)) (growS σ tk (a.length + 1) 5)) :
    appendW Try.prog ⟨[52, 52]⟩ (.slice tk (a.map ndX)) (.slice tk2 [ndX y]) σ K := by
  refine append_slice E52 rfl (by rw [List.length_map]; exact hca) (by intro v hv; simp at hv; subst hv; simp only [ndX, AV.size, sizes_nd]) size_nds (by simp; omega) (by simp [maxL]; omega) ?_
  simpa using hK
theorem make_zeros {n : Int} {σ : AST} {K : AV → AST → Prop} (h0 : 0 ≤ n) (h1 : n ≤ 512) (hK : K (.slice .full (u8s (List.replicate n.toNat 0))) σ) : makeSliceW Try.prog 123 (.int .i64 n) (.int .i64 n) σ K := by
  refine ⟨h0, Int.le_refl _, 5, .int .u8 0, Try.underlying123, ⟨_, _, rfl, rfl, rfl, rfl, rfl⟩, by decide +kernel, ?_, by omega, .inr (.inl ⟨rfl, ?_⟩)⟩
  · have h : Try.prog.bytesOf 5 = 1 := by kernel_rfl
    rw [h]; omega
  · simpa [u8s] using hK
section
variable {σ : AST} {K : AV → AST → Prop}
def NodesOf (l : List TL) (L : List TNd) : Prop := L.map (·.x) = l.map fun y => nodeOf y.x
theorem nodes_of_next {l : List TL} {L : List TNd} {i : Nat} {y : TL} {z : TNd} (h : NodesOf (l.take i) L) (hy : l[i]? = some y) (hz : z.x = nodeOf y.x) : NodesOf (l.take (i + 1)) (L ++ [z]) := by
  have hi := (List.getElem?_eq_some_iff.1 hy).1
  have e : l.take (i + 1) = l.take i ++ [y] := by rw [← (List.getElem?_eq_some_iff.1 hy).2]; exact (List.take_append_getElem hi).symm
  unfold NodesOf at h ⊢
  rw [e, List.map_append, List.map_append, h]; simp [hz]
theorem rnodes_c {l : List TL} {tk : Tk} (hl : l.length ≤ 1000) (hs : ∀ y ∈ l, 0 ≤ y.x.size ∧ y.x.size ≤ 512) (hK : ∀ s' t L, NodesOf l L → Ext σ s' → K (.slice t (L.map ndX)) s') : TCalls Try.prog 80 [.slice tk (l.map L21.leafV)] σ K := by
  refine tcalls_walk Try.f80 _ [.tmp 2] Try.func80 rfl rfl rfl mixed (Nat.le_of_ble_eq_true rfl) rfl fun hlen => ?_
  repeat' (first | (simp -dsimp only [↓reduceIte, go_sem]) | (refine arr_intro fun _ => ?_) | (refine later_intro ⟨keeps_nil, ?_⟩) | (refine later_intro ⟨keeps_refl, ?_⟩) | (with_reducible refine keeps_go ?_ ?_; focus (first | (simp [keeps_cons, keeps_none, objs_app, objs_app0]; done) | (simp only [keeps_cons, keeps_none, objs_app0, objs_app, and_true]; first | rfl | exact ⟨rfl, rfl⟩ | exact ⟨rfl, rfl, rfl⟩))) | (with_reducible refine (And.intro (a := keeps _ _ _) ?_ ?_); focus (first | (simp [keeps_cons, keeps_none, objs_app, objs_app0]; done) | (simp only [keeps_cons, keeps_none, objs_app0, objs_app, and_true]; first | rfl | exact ⟨rfl, rfl⟩ | exact ⟨rfl, rfl, rfl⟩))) | (refine both_ways ?_ ?_) | (rw [wrap_i64 (by omega) (by omega)]) | (refine guardV_split (fun h => ?_) (fun h => ?_) <;> (try rw [h]) <;> (try simp at h) <;> (try (exfalso; omega))))
  refine awp_rounds (fun (i : Nat) τ s => ∃ t L, i ≤ l.length ∧ NodesOf (l.take i) L ∧ Gr σ s t L.length 5 ∧ τ 0 = .slice tk (l.map L21.leafV) ∧ τ 3 = .slice t (L.map ndX) ∧ τ 4 = .int .i64 i) (fun i => l.length - i) 0 ?_ ?_
  · refine ⟨.full, [], by omega, rfl, Gr.start, ?_, ?_, ?_⟩ <;> (try simp only [go_sem]) <;> (try rfl)
  · rintro i τ s ⟨t, L, hi, hN, hG, t0, t3, t4⟩
    by_cases hlt : i < l.length
    · have hlt1 : (i : Int) < l.length := by omega
      have hy : l[i]? = some l[i] := List.getElem?_eq_getElem hlt
      have hz := hs _ (List.getElem_mem hlt)
      generalize l[i] = y at hy hz
      have w1 : IntKind.i64.wrap ((i : Int) + 1) = (i : Int) + 1 := wrap_i64 (by omega) (by omega)
      have hLl : L.length = i := by have := congrArg List.length hN; simp at this; omega
      repeat' (first | (simp -dsimp only [↓reduceIte, go_sem, t0, t3, t4, hlt1, w1, L21.leafV]) | (refine arr_intro fun _ => ?_) | (refine later_intro ⟨keeps_nil, ?_⟩) | (refine later_intro ⟨keeps_refl, ?_⟩) | (with_reducible refine keeps_go ?_ ?_; focus (first | (simp [keeps_cons, keeps_none, objs_app, objs_app0]; done) | (simp only [keeps_cons, keeps_none, objs_app0, objs_app, and_true]; first | rfl | exact ⟨rfl, rfl⟩ | exact ⟨rfl, rfl, rfl⟩))) | (with_reducible refine (And.intro (a := keeps _ _ _) ?_ ?_); focus (first | (simp [keeps_cons, keeps_none, objs_app, objs_app0]; done) | (simp only [keeps_cons, keeps_none, objs_app0, objs_app, and_true]; first | rfl | exact ⟨rfl, rfl⟩ | exact ⟨rfl, rfl, rfl⟩))) | (refine both_ways ?_ ?_) | (rw [wrap_i64 (by omega) (by omega)]) | (refine guardV_split (fun h => ?_) (fun h => ?_) <;> (try rw [h]) <;> (try simp at h) <;> (try (exfalso; omega))) | (with_reducible refine awp_drawU (id := 6) (.op 0 0 (.op 1 0 (.op 2 0 (.op 3 0 (.op 4 0 (.op 5 2 (.op 6 2 (.op 9 0 (.op 10 0 (.op 11 0 (.op 12 0 (.op 7 1 (.cut (.op 8 2 (.op 13 2 (.op 14 2 (.op 15 1 (.op 16 2 .nil)))))))))))))))))) (by kernel_rfl) ?_) | (refine nth_get hy ?_) | (refine make_zeros hz.1 hz.2 ?_))
      have e : AV.agg (ndPs y.t2 y.t3 { num := y.x.num, kind := y.x.kind, data := List.replicate y.x.size.toNat 0, names := y.x.names, nodes := y.x.nodes }) = ndX ⟨nodeOf y.x, y.t2, y.t3⟩ := by
        have : (max 0 (min y.x.size 512)).toNat = y.x.size.toNat := by omega
        simp only [ndX, nodeOf, this]
      rw [e]
      have hga := fun l => hG.app (l := l)
      repeat' (first | (simp -dsimp only [↓reduceIte, go_sem, t0, t3, t4, w1]) | (refine arr_intro fun _ => ?_) | (refine later_intro ⟨keeps_nil, ?_⟩) | (refine later_intro ⟨keeps_refl, ?_⟩) | (with_reducible refine keeps_go ?_ ?_; focus (first | (simp [keeps_cons, keeps_none, objs_app, objs_app0]; done) | (simp only [keeps_cons, keeps_none, objs_app0, objs_app, and_true]; first | rfl | exact ⟨rfl, rfl⟩ | exact ⟨rfl, rfl, rfl⟩))) | (with_reducible refine (And.intro (a := keeps _ _ _) ?_ ?_); focus (first | (simp [keeps_cons, keeps_none, objs_app, objs_app0]; done) | (simp only [keeps_cons, keeps_none, objs_app0, objs_app, and_true]; first | rfl | exact ⟨rfl, rfl⟩ | exact ⟨rfl, rfl, rfl⟩))) | (refine both_ways ?_ ?_) | (rw [wrap_i64 (by omega) (by omega)]) | (refine guardV_split (fun h => ?_) (fun h => ?_) <;> (try rw [h]) <;> (try simp at h) <;> (try (exfalso; omega))) | (refine build_slice E52 rfl (by decide) (by intro v hv; simp at hv; subst hv; simp [go_sem, ndX]) ?_) | (refine append_nd (hga _).c (by omega) ?_))
      refine later_intro ⟨i + 1, by omega, growT (s.app [.cells (L21.leafV y)]) t, L ++ [⟨nodeOf y.x, y.t2, y.t3⟩], by omega, nodes_of_next hN hy rfl, ?_, ?_, ?_, ?_⟩ <;> (try simp only [go_sem, t0, t3, t4]) <;> (try rfl)
      rw [List.length_append]
      exact (hga _).grow
    · obtain rfl : i = l.length := by omega
      have hlt1 : ¬ ((l.length : Nat) : Int) < l.length := by omega
      rw [List.take_length] at hN
      repeat' (first | (simp -dsimp only [↓reduceIte, go_sem, t0, t3, t4, hlt1]) | (refine arr_intro fun _ => ?_) | (refine later_intro ⟨keeps_nil, ?_⟩) | (refine later_intro ⟨keeps_refl, ?_⟩) | (with_reducible refine keeps_go ?_ ?_; focus (first | (simp [keeps_cons, keeps_none, objs_app, objs_app0]; done) | (simp only [keeps_cons, keeps_none, objs_app0, objs_app, and_true]; first | rfl | exact ⟨rfl, rfl⟩ | exact ⟨rfl, rfl, rfl⟩))) | (with_reducible refine (And.intro (a := keeps _ _ _) ?_ ?_); focus (first | (simp [keeps_cons, keeps_none, objs_app, objs_app0]; done) | (simp only [keeps_cons, keeps_none, objs_app0, objs_app, and_true]; first | rfl | exact ⟨rfl, rfl⟩ | exact ⟨rfl, rfl, rfl⟩))) | (refine both_ways ?_ ?_) | (rw [wrap_i64 (by omega) (by omega)]) | (refine guardV_split (fun h => ?_) (fun h => ?_) <;> (try rw [h]) <;> (try simp at h) <;> (try (exfalso; omega))))
      exact hK _ _ _ hN hG.x
theorem _root_.Go.Aff.Gr.other {σ s : AST} {tk : Tk} {n e m f : Nat} (h : Gr σ s tk n e) : Gr σ (growS s .full m f) tk n e := ⟨h.x.trans (Ext.growFull _ _ _), h.t, canApp_apart apart_full h.c⟩
theorem append_names {b : List (List UInt8)} {tk2 : Tk} {σ : AST} {K : AV → AST → Prop} (hl : b.length ≤ 5000) (hK : K (.slice (growT σ .full) (b.map AV.str)) (growS σ .full b.length 1)) :
    appendW Try.prog ⟨[43, 43]⟩ (.slice .full []) (.slice tk2 (b.map AV.str)) σ K := by
  refine append_slice (xs := []) L21.E29 rfl trivial (by intro v hv; obtain ⟨x, _, rfl⟩ := List.mem_map.1 hv; rfl) (by intro v hv; simp at hv) (by simp; omega) (by simp [maxL]; omega) ?_
  simpa using hK
theorem append_kids {b : List Int} {tk2 : Tk} {σ : AST} {K : AV → AST → Prop} (hl : b.length ≤ 5000) (hK : K (.slice (growT σ .full) (b.map (AV.int .i64))) (growS σ .full b.length 1)) :
    appendW Try.prog ⟨[50, 50]⟩ (.slice .full []) (.slice tk2 (b.map (AV.int .i64))) σ K := by
  refine append_slice (xs := []) L21.E44 rfl trivial (by intro v hv; obtain ⟨x, _, rfl⟩ := List.mem_map.1 hv; rfl) (by intro v hv; simp at hv) (by simp; omega) (by simp [maxL]; omega) ?_
  simpa using hK
theorem inodes_c {l : List TL} {tk : Tk} (hl : l.length ≤ 1000) (hs : ∀ y ∈ l, y.x.names.length ≤ 5000 ∧ y.x.nodes.length ≤ 5000) (hK : ∀ s' t L, NodesOf l L → Ext σ s' → K (.slice t (L.map ndX)) s') : TCalls Try.prog 76 [.slice tk (l.map L21.leafV)] σ K := by
  refine tcalls_walk Try.f76 _ [.tmp 2] Try.func76 rfl rfl rfl mixed (Nat.le_of_ble_eq_true rfl) rfl fun hlen => ?_
  repeat' (first | (simp -dsimp only [↓reduceIte, go_sem]) | (refine arr_intro fun _ => ?_) | (refine later_intro ⟨keeps_nil, ?_⟩) | (refine later_intro ⟨keeps_refl, ?_⟩) | (with_reducible refine keeps_go ?_ ?_; focus (first | (simp [keeps_cons, keeps_none, objs_app, objs_app0]; done) | (simp only [keeps_cons, keeps_none, objs_app0, objs_app, and_true]; first | rfl | exact ⟨rfl, rfl⟩ | exact ⟨rfl, rfl, rfl⟩))) | (with_reducible refine (And.intro (a := keeps _ _ _) ?_ ?_); focus (first | (simp [keeps_cons, keeps_none, objs_app, objs_app0]; done) | (simp only [keeps_cons, keeps_none, objs_app0, objs_app, and_true]; first | rfl | exact ⟨rfl, rfl⟩ | exact ⟨rfl, rfl, rfl⟩))) | (refine both_ways ?_ ?_) | (rw [wrap_i64 (by omega) (by omega)]) | (refine guardV_split (fun h => ?_) (fun h => ?_) <;> (try rw [h]) <;> (try simp at h) <;> (try (exfalso; omega))))
  refine awp_rounds (fun (i : Nat) τ s => ∃ t L, i ≤ l.length ∧ NodesOf (l.take i) L ∧ Gr σ s t L.length 5 ∧ τ 3 = .slice t (L.map ndX) ∧ τ 7 = .slice tk (l.map L21.leafV) ∧ τ 8 = .int .i64 l.length ∧ τ 9 = .int .i64 i) (fun i => l.length - i) 0 ?_ ?_
  · refine ⟨.full, [], by omega, rfl, Gr.start, ?_, ?_, ?_, ?_⟩ <;> (try simp only [go_sem]) <;> (try rfl)
  · rintro i τ s ⟨t, L, hi, hN, hG, t3, t7, t8, t9⟩
    by_cases hlt : i < l.length
    · have hlt1 : (i : Int) < l.length := by omega
      have hy : l[i]? = some l[i] := List.getElem?_eq_getElem hlt
      have hz := hs _ (List.getElem_mem hlt)
      generalize l[i] = y at hy hz
      have w1 : IntKind.i64.wrap ((i : Int) + 1) = (i : Int) + 1 := wrap_i64 (by omega) (by omega)
      have hLl : L.length = i := by have := congrArg List.length hN; simp at this; omega
      repeat' (first | (simp -dsimp only [↓reduceIte, go_sem, t3, t7, t8, t9, hlt1, w1, L21.leafV]) | (refine arr_intro fun _ => ?_) | (refine later_intro ⟨keeps_nil, ?_⟩) | (refine later_intro ⟨keeps_refl, ?_⟩) | (with_reducible refine keeps_go ?_ ?_; focus (first | (simp [keeps_cons, keeps_none, objs_app, objs_app0]; done) | (simp only [keeps_cons, keeps_none, objs_app0, objs_app, and_true]; first | rfl | exact ⟨rfl, rfl⟩ | exact ⟨rfl, rfl, rfl⟩))) | (with_reducible refine (And.intro (a := keeps _ _ _) ?_ ?_); focus (first | (simp [keeps_cons, keeps_none, objs_app, objs_app0]; done) | (simp only [keeps_cons, keeps_none, objs_app0, objs_app, and_true]; first | rfl | exact ⟨rfl, rfl⟩ | exact ⟨rfl, rfl, rfl⟩))) | (refine both_ways ?_ ?_) | (rw [wrap_i64 (by omega) (by omega)]) | (refine guardV_split (fun h => ?_) (fun h => ?_) <;> (try rw [h]) <;> (try simp at h) <;> (try (exfalso; omega))) | (with_reducible refine awp_drawU (id := 6) (.op 0 0 (.op 1 0 (.op 2 0 (.op 3 0 (.op 4 0 (.op 5 0 (.op 8 0 (.op 9 0 (.op 10 0 (.op 12 0 (.op 13 0 (.op 14 0 (.fork 6 (.op 6 1 (.op 7 0 (.op 11 1 (.op 15 1 (.cut (.op 16 2 (.op 17 2 (.op 18 1 (.op 19 2 .nil))))))))) (.op 11 1 (.fork 6 (.op 6 1 (.op 7 0 (.op 15 1 (.cut (.op 16 2 (.op 17 2 (.op 18 1 (.op 19 2 .nil)))))))) (.op 15 1 (.op 6 1 (.cut (.op 7 2 (.op 16 2 (.op 17 2 (.op 18 1 (.op 19 2 .nil))))))))))))))))))))))) (by kernel_rfl) ?_) | (refine nth_get hy ?_) | (refine make_zeros (by omega) (by omega) ?_) | (refine build_slice L21.E29 rfl (by decide) (by intro v hv; simp at hv) ?_) | (refine build_slice L21.E44 rfl (by decide) (by intro v hv; simp at hv) ?_) | (refine append_names hz.1 ?_) | (refine append_kids hz.2 ?_))
      all_goals
        have e : ∀ t u, AV.agg (ndPs t u { num := y.x.num, kind := y.x.kind, data := List.replicate (max 0 (min y.x.size 512)).toNat 0, names := y.x.names, nodes := y.x.nodes }) = ndX ⟨nodeOf y.x, t, u⟩ := fun t u => rfl
        have hga := fun l a b => (((hG.app (l := l)).other (m := a) (f := 1)).other (m := b) (f := 1))
        rw [e]
        repeat' (first | (simp -dsimp only [↓reduceIte, go_sem, t3, t7, t8, t9, w1]) | (refine arr_intro fun _ => ?_) | (refine later_intro ⟨keeps_nil, ?_⟩) | (refine later_intro ⟨keeps_refl, ?_⟩) | (with_reducible refine keeps_go ?_ ?_; focus (first | (simp [keeps_cons, keeps_none, objs_app, objs_app0]; done) | (simp only [keeps_cons, keeps_none, objs_app0, objs_app, and_true]; first | rfl | exact ⟨rfl, rfl⟩ | exact ⟨rfl, rfl, rfl⟩))) | (with_reducible refine (And.intro (a := keeps _ _ _) ?_ ?_); focus (first | (simp [keeps_cons, keeps_none, objs_app, objs_app0]; done) | (simp only [keeps_cons, keeps_none, objs_app0, objs_app, and_true]; first | rfl | exact ⟨rfl, rfl⟩ | exact ⟨rfl, rfl, rfl⟩))) | (refine both_ways ?_ ?_) | (rw [wrap_i64 (by omega) (by omega)]) | (refine guardV_split (fun h => ?_) (fun h => ?_) <;> (try rw [h]) <;> (try simp at h) <;> (try (exfalso; omega))) | (refine build_slice E52 rfl (by decide) (by intro v hv; simp at hv; subst hv; simp [go_sem, ndX]) ?_) | (refine append_nd (hga _ _ _).c (by omega) ?_))
        refine later_intro ⟨i + 1, by omega, growT (growS (growS (s.app [.cells (L21.leafV y)]) .full y.x.names.length 1) .full y.x.nodes.length 1) t, L ++ [⟨nodeOf y.x, growT (s.app [.cells (L21.leafV y)]) .full, growT (growS (s.app [.cells (L21.leafV y)]) .full y.x.names.length 1) .full⟩], by omega, nodes_of_next hN hy rfl, ?_, ?_, ?_, ?_, ?_⟩ <;> (try simp only [go_sem, t3, t7, t8, t9]) <;> (try rfl)
        rw [List.length_append]
        exact (hga _ _ _).grow
    · obtain rfl : i = l.length := by omega
      have hlt1 : ¬ ((l.length : Nat) : Int) < l.length := by omega
      rw [List.take_length] at hN
      repeat' (first | (simp -dsimp only [↓reduceIte, go_sem, t3, t7, t8, t9, hlt1]) | (refine arr_intro fun _ => ?_) | (refine later_intro ⟨keeps_nil, ?_⟩) | (refine later_intro ⟨keeps_refl, ?_⟩) | (with_reducible refine keeps_go ?_ ?_; focus (first | (simp [keeps_cons, keeps_none, objs_app, objs_app0]; done) | (simp only [keeps_cons, keeps_none, objs_app0, objs_app, and_true]; first | rfl | exact ⟨rfl, rfl⟩ | exact ⟨rfl, rfl, rfl⟩))) | (with_reducible refine (And.intro (a := keeps _ _ _) ?_ ?_); focus (first | (simp [keeps_cons, keeps_none, objs_app, objs_app0]; done) | (simp only [keeps_cons, keeps_none, objs_app0, objs_app, and_true]; first | rfl | exact ⟨rfl, rfl⟩ | exact ⟨rfl, rfl, rfl⟩))) | (refine both_ways ?_ ?_) | (rw [wrap_i64 (by omega) (by omega)]) | (refine guardV_split (fun h => ?_) (fun h => ?_) <;> (try rw [h]) <;> (try simp at h) <;> (try (exfalso; omega))))
      exact hK _ _ _ hN hG.x
end
def entG {κ β : Type} (f : κ → AV) (g : β → AV) (e : Nat × κ × β) : Nat × AV × AV := (e.1, f e.2.1, g e.2.2)
def entI (e : Nat × Int × Nat) : Nat × AV × AV := entG (AV.int .i64) (fun k => AV.ptr (some (k, []))) e
def entS (e : Nat × List UInt8 × Int) : Nat × AV × AV := entG AV.str (AV.int .i64) e
theorem keyI {k : Int} : keyOk Try.prog 40 3 (.int .i64 k) = true := by simp [keyOk, Try.underlying3]
theorem keyS {k : List UInt8} : keyOk Try.prog 40 9 (.str k) = true := by simp [keyOk, Try.underlying9]
theorem eqI3 {a b : Int} : eqA Try.prog 40 3 (.int .i64 a) (.int .i64 b) = some (a == b) := by simp [eqA, Try.underlying3]
theorem eqS9 {a b : List UInt8} : eqA Try.prog 40 9 (.str a) (.str b) = some (a == b) := by simp [eqA, Try.underlying9]
theorem findI {k : Int} : ∀ {E : List (Nat × Int × Nat)}, findE Try.prog 3 (.int .i64 k) (E.map entI) = some (E.findIdx? fun e => e.2.1 == k)
  | [] => rfl
  | e :: E => by
    have ih := findI (k := k) (E := E)
    simp only [List.map_cons, findE, entI, entG, eqK, keyI, if_true, eqI3]
    rw [List.findIdx?_cons]
    by_cases h : e.2.1 = k
    · simp [h]
    · have h1 : (k == e.2.1) = false := by simp; exact fun e' => h e'.symm
      have h2 : (e.2.1 == k) = false := by simp [h]
      rw [h1, h2]
      change (findE Try.prog 3 (.int .i64 k) (E.map entI)).map _ = _
      rw [ih]; simp
theorem findS {k : List UInt8} : ∀ {E : List (Nat × List UInt8 × Int)}, findE Try.prog 9 (.str k) (E.map entS) = some (E.findIdx? fun e => e.2.1 == k)
  | [] => rfl
  | e :: E => by
    have ih := findS (k := k) (E := E)
    simp only [List.map_cons, findE, entS, entG, eqK, keyS, if_true, eqS9]
    rw [List.findIdx?_cons]
    by_cases h : e.2.1 = k
    · simp [h]
    · have h1 : (k == e.2.1) = false := by simp; exact fun e' => h e'.symm
      have h2 : (e.2.1 == k) = false := by simp [h]
      rw [h1, h2]
      change (findE Try.prog 9 (.str k) (E.map entS)).map _ = _
      rw [ih]; simp
def vnPs (k l : Int) (d : List UInt8) (m : Option Nat) : List AV := [.int .i64 k, .int .i64 l, .str d, .mp m]
section
variable {k l x : Int} {d y : List UInt8} {m q : Option Nat} {v : AV}
theorem vnPs_0 : (vnPs k l d m)[0]? = some (.int .i64 k) := nr rfl
theorem vnPs_1 : (vnPs k l d m)[1]? = some (.int .i64 l) := nr rfl
theorem vnPs_2 : (vnPs k l d m)[2]? = some (.str d) := nr rfl
theorem vnPs_3 : (vnPs k l d m)[3]? = some (.mp m) := nr rfl
theorem vnSet_0 : (vnPs k l d m).set 0 (.int .i64 x) = vnPs x l d m := nr rfl
theorem vnSet_1 : (vnPs k l d m).set 1 (.int .i64 x) = vnPs k x d m := nr rfl
theorem vnSet_2 : (vnPs k l d m).set 2 (.str y) = vnPs k l y m := nr rfl
theorem vnSet_3 : (vnPs k l d m).set 3 (.mp q) = vnPs k l d q := nr rfl
theorem vnAt_0 : partIs Try.prog 179 (vnPs k l d m) 0 v = fits Try.prog 3 v := by rw [partIs_of (o := 0) (T := 3) (by kernel_rfl)]; simp [vnPs, AV.sizes, AV.size]
theorem vnAt_1 : partIs Try.prog 179 (vnPs k l d m) 1 v = fits Try.prog 3 v := by rw [partIs_of (o := 1) (T := 3) (by kernel_rfl)]; simp [vnPs, AV.sizes, AV.size]
theorem vnAt_2 : partIs Try.prog 179 (vnPs k l d m) 2 v = fits Try.prog 9 v := by rw [partIs_of (o := 2) (T := 9) (by kernel_rfl)]; simp [vnPs, AV.sizes, AV.size]
theorem vnAt_3 : partIs Try.prog 179 (vnPs k l d m) 3 v = fits Try.prog 177 v := by rw [partIs_of (o := 3) (T := 177) (by kernel_rfl)]; simp [vnPs, AV.sizes, AV.size]
theorem zero_vn : zeroA Try.prog 12 179 = .agg (vnPs 0 0 [] none) := by kernel_rfl
theorem zt_vn : ZeroOf Try.prog 179 (.agg (vnPs 0 0 [] none)) = True := eq_true ⟨_, _, rfl, rfl, rfl, rfl, rfl⟩
theorem built_vn : Built Try.prog 179 = True := eq_true (by unfold Built; rw [Try.underlying179]; decide +kernel)
theorem fits177 : fits Try.prog 177 (.mp m) = True := by rw [fits_leaf (P := Try.prog) (t := 177) (by kernel_rfl) (by kernel_rfl)]; simp [AV.isAgg, AV.size]
theorem fits172 : fits Try.prog 172 (.mp m) = True := by rw [fits_leaf (P := Try.prog) (t := 172) (by kernel_rfl) (by kernel_rfl)]; simp [AV.isAgg, AV.size]
theorem voAt {x y : Option Nat} : partIs Try.prog 174 [.mp x] 0 (.mp y) = True := by rw [partIs_of (o := 0) (T := 172) (by kernel_rfl)]; simp [AV.sizes, AV.size, fits172]
theorem zero174 : zeroA Try.prog 12 174 = .agg [.mp none] := by kernel_rfl
theorem zt174 : ZeroOf Try.prog 174 (.agg [.mp none]) = True := eq_true ⟨_, _, rfl, rfl, rfl, rfl, rfl⟩
theorem built174 : Built Try.prog 174 = True := eq_true (by unfold Built; rw [Try.underlying174]; decide +kernel)
end
end Go.Aff.L10

