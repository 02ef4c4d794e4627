import Derived.Test.YtahhjdknfhkgcaaG9
import Derived.Test.YtahhjdknfhkgcaaG1

set_option linter.unusedSimpArgs false
set_option linter.unusedVariables false

namespace Go.Aff.L10
open Go.Proofs Go.Aff Go.Aff.L01 Classical
set_option maxRecDepth 20000
attribute [local go_sem] push_app app_app length_app cellAt_app cellAt_app0 set_app set_app0 objs_app objs_app0 List.cons_append List.nil_append List.length_cons List.length_nil List.getElem?_cons_zero List.getElem?_cons_succ List.set_cons_zero List.set_cons_succ List.length_map
attribute [-go_sem] cellAt_new
attribute [-simp] List.length_flatMap
attribute [local go_sem] fits3 zt3 zero3
attribute [local go_sem ↓] blockQ_exit2
attribute [local go_sem] shpPs_0 shpAt_0 shpSet_0 shpPs_1 shpAt_1 shpSet_1 sizes_shp shapes_shp fits_shp zero_shp zt_shp built_shp Try.underlying164
theorem size_part {p : Part} : (partV p).size = 1 := by cases p <;> rfl
theorem agg_part {p : Part} : (partV p).isAgg = false := by cases p <;> rfl
theorem known_part {p : Part} : (partV p).known = true := by cases p <;> rfl
theorem fits167 {v : AV} : fits Try.prog 167 v = (v.isAgg = false ∧ v.size = 1) := fits_leaf (by kernel_rfl) (by kernel_rfl)
theorem zt167 : ZeroOf Try.prog 167 .nilIface = True := eq_true ⟨_, _, rfl, rfl, rfl, rfl, rfl⟩
theorem E164 : ElemT Try.prog 164 167 1 16 := ⟨rfl, by kernel_rfl, by kernel_rfl, ⟨_, of_eq_true zt167⟩, by decide⟩
attribute [local go_sem] size_part agg_part known_part fits167
theorem Part.len_le {p : Part} (h : p.Ok) : p.len ≤ 4398046600000 := by
  cases p with
  | num n => have := nlen_le h; simp only [Part.len]; omega
  | txt n =>
    have h' : n ≤ 4398046511104 := h
    have := nlen_le (n := max n 0) ⟨by omega, by omega⟩
    simp only [Part.len, tlen]; omega
  | sgn => simp [Part.len]
  | lst tk l => have := llen_take h.2; have := h.1; simp only [Part.len]; omega
theorem add_c {p : Part} (h : p.Ok) {j : Nat} {n : Nat} {s : AST} (hj : s.objs[j]? = some (.cells (.int .i64 n))) (hn : n ≤ 9000000000000000) {K : AV → AST → Prop}
    (hK : K (.tuple []) (s.set j (.cells (.int .i64 ((n + p.len : Nat) : Int))))) : TCalls Try.prog 98 [partV p, .ptr (some (j, []))] s K := by
  have cj := cellAt_known hj
  have hl := Part.len_le h
  have w : IntKind.i64.wrap ((n : Int) + (p.len : Nat)) = ((n + p.len : Nat) : Int) := by rw [wrap_i64 (by omega) (by omega)]; omega
  refine tcalls_walk Try.f98 _ [] Try.func98 rfl rfl rfl mixed (Nat.le_of_ble_eq_true rfl) rfl fun hlen => ?_
  repeat' (first | (simp -dsimp only [↓reduceIte, go_sem, cj, hj, w]) | (refine arr_intro fun _ => ?_) | (refine later_intro ⟨keeps_nil, ?_⟩) | (refine later_intro ⟨keeps_refl, ?_⟩) | (with_reducible refine keeps_go ?_ ?_; focus (first | (simp [keeps_cons, keeps_none, objs_app, objs_app0]; done) | (simp only [keeps_cons, keeps_none, objs_app0, objs_app, and_true]; first | rfl | exact ⟨rfl, rfl⟩ | exact ⟨rfl, rfl, rfl⟩))) | (with_reducible refine (And.intro (a := keeps _ _ _) ?_ ?_); focus (first | (simp [keeps_cons, keeps_none, objs_app, objs_app0]; done) | (simp only [keeps_cons, keeps_none, objs_app0, objs_app, and_true]; first | rfl | exact ⟨rfl, rfl⟩ | exact ⟨rfl, rfl, rfl⟩))) | (refine both_ways ?_ ?_) | (rw [wrap_i64 (by omega) (by omega)]) | (refine guardV_split (fun h => ?_) (fun h => ?_) <;> (try rw [h]) <;> (try simp at h) <;> (try (exfalso; omega))) | (with_reducible refine awp_drawU (id := 0) (.op 0 0 (.op 1 2 (.op 2 1 (.cut (.op 3 2 (.op 4 1 .nil)))))) (by kernel_rfl) ?_) | (refine part_size h ?_))
  all_goals exact hK
def lens (ps : List Part) : Nat := (ps.map Part.len).sum
theorem lens_le {ps : List Part} (h : ∀ p ∈ ps, p.Ok) : lens ps ≤ 4398046600000 * ps.length := by
  induction ps with
  | nil => simp [lens]
  | cons p ps ih =>
    have h1 := Part.len_le (h p (List.mem_cons_self ..))
    have h2 := ih fun q hq => h q (List.mem_cons_of_mem _ hq)
    simp only [lens, List.map_cons, List.sum_cons, List.length_cons] at h2 ⊢
    omega
theorem shape_c {k : Int} (hk : Rng k) {ps : List Part} (hp : ∀ p ∈ ps, p.Ok) (hl : ps.length ≤ 100) {tk : Tk} {σ : AST} {K : AV → AST → Prop}
    (hK : K (.agg (shpPs ⟨k, ((nlen k + lens ps : Nat) : Int)⟩)) σ) : TCalls Try.prog 73 [.int .i64 k, .slice tk (ps.map partV)] σ K := by
  refine TCalls.drop ?_
  have hn := nlen_le hk
  refine tcalls_walk Try.f73 _ [.cell 4 58] Try.func73 rfl rfl rfl mixed (Nat.le_of_ble_eq_true rfl) rfl fun hlen => ?_
  repeat' (first | (simp -dsimp only [↓reduceIte, go_sem]) | (refine arr_intro fun _ => ?_) | (refine later_intro ⟨keeps_nil, ?_⟩) | (refine later_intro ⟨keeps_refl, ?_⟩) | (with_reducible refine keeps_go ?_ ?_; focus (first | (simp [keeps_cons, keeps_none, objs_app, objs_app0]; done) | (simp only [keeps_cons, keeps_none, objs_app0, objs_app, and_true]; first | rfl | exact ⟨rfl, rfl⟩ | exact ⟨rfl, rfl, rfl⟩))) | (with_reducible refine (And.intro (a := keeps _ _ _) ?_ ?_); focus (first | (simp [keeps_cons, keeps_none, objs_app, objs_app0]; done) | (simp only [keeps_cons, keeps_none, objs_app0, objs_app, and_true]; first | rfl | exact ⟨rfl, rfl⟩ | exact ⟨rfl, rfl, rfl⟩))) | (refine both_ways ?_ ?_) | (rw [wrap_i64 (by omega) (by omega)]) | (refine guardV_split (fun h => ?_) (fun h => ?_) <;> (try rw [h]) <;> (try simp at h) <;> (try (exfalso; omega))) | (refine num_size hk ?_))
  refine ⟨fun x hx => ?_, later_intro ?_⟩
  · simp only [List.mem_cons, List.mem_append, List.not_mem_nil, or_false, false_or] at hx
    rcases hx with rfl
    simp only [go_sem] <;> rfl
  repeat' (first | (simp -dsimp only [↓reduceIte, go_sem]) | (refine arr_intro fun _ => ?_) | (refine later_intro ⟨keeps_nil, ?_⟩) | (refine later_intro ⟨keeps_refl, ?_⟩) | (with_reducible refine keeps_go ?_ ?_; focus (first | (simp [keeps_cons, keeps_none, objs_app, objs_app0]; done) | (simp only [keeps_cons, keeps_none, objs_app0, objs_app, and_true]; first | rfl | exact ⟨rfl, rfl⟩ | exact ⟨rfl, rfl, rfl⟩))) | (with_reducible refine (And.intro (a := keeps _ _ _) ?_ ?_); focus (first | (simp [keeps_cons, keeps_none, objs_app, objs_app0]; done) | (simp only [keeps_cons, keeps_none, objs_app0, objs_app, and_true]; first | rfl | exact ⟨rfl, rfl⟩ | exact ⟨rfl, rfl, rfl⟩))) | (refine both_ways ?_ ?_) | (rw [wrap_i64 (by omega) (by omega)]) | (refine guardV_split (fun h => ?_) (fun h => ?_) <;> (try rw [h]) <;> (try simp at h) <;> (try (exfalso; omega))))
  refine awp_rounds (fun (i : Nat) τ s' => i ≤ ps.length ∧ Ext σ s' ∧ s'.objs[σ.objs.length]? = some (.cells (.agg (shpPs shp0))) ∧ s'.objs[σ.objs.length + 1]? = some (.cells (.int .i64 ((nlen k + lens (ps.take i) : Nat) : Int))) ∧
    τ 0 = .int .i64 k ∧ τ 4 = .ptr (some (σ.objs.length, [])) ∧ τ 5 = .ptr (some (σ.objs.length + 1, [])) ∧ τ 6 = .fn (.func 98) [] [.ptr (some (σ.objs.length + 1, []))] ∧ τ 12 = .slice tk (ps.map partV) ∧ τ 13 = .int .i64 ps.length ∧ τ 14 = .int .i64 i) (fun i => ps.length - i) 0 ?_ ?_
  · refine ⟨by omega, Ext.app _ _, objs_app0, ?_, ?_, ?_, ?_, ?_, ?_, ?_, ?_⟩ <;> (try simp only [go_sem]) <;> (try rfl)
  · rintro i τ s' ⟨hi, hx, o0, o1, t0, t4, t5, t6, t12, t13, t14⟩
    have hs := fun j => lens_le (ps := ps.take j) (fun p h => hp p (List.mem_of_mem_take h))
    by_cases hlt : i < ps.length
    · have hlt1 : (i : Int) < ps.length := by omega
      have hpi : ps[i]? = some ps[i] := List.getElem?_eq_getElem hlt
      have hok := hp _ (List.getElem_mem hlt)
      have e : ps.take (i + 1) = ps.take i ++ [ps[i]] := (List.take_append_getElem hlt).symm
      generalize ps[i] = p at hpi hok e
      have e2 : nlen k + lens (ps.take (i + 1)) = nlen k + lens (ps.take i) + p.len := by rw [e]; simp [lens]; omega
      have w1 : IntKind.i64.wrap ((i : Int) + 1) = (i : Int) + 1 := wrap_i64 (by omega) (by omega)
      have h1 := hs i
      rw [List.length_take] at h1
      repeat' (first | (simp -dsimp only [↓reduceIte, go_sem, t0, t4, t5, t6, t12, t13, t14, hlt1]) | (refine arr_intro fun _ => ?_) | (refine later_intro ⟨keeps_nil, ?_⟩) | (refine later_intro ⟨keeps_refl, ?_⟩) | (with_reducible refine keeps_go ?_ ?_; focus (first | (simp [keeps_cons, keeps_none, objs_app, objs_app0]; done) | (simp only [keeps_cons, keeps_none, objs_app0, objs_app, and_true]; first | rfl | exact ⟨rfl, rfl⟩ | exact ⟨rfl, rfl, rfl⟩))) | (with_reducible refine (And.intro (a := keeps _ _ _) ?_ ?_); focus (first | (simp [keeps_cons, keeps_none, objs_app, objs_app0]; done) | (simp only [keeps_cons, keeps_none, objs_app0, objs_app, and_true]; first | rfl | exact ⟨rfl, rfl⟩ | exact ⟨rfl, rfl, rfl⟩))) | (refine both_ways ?_ ?_) | (rw [wrap_i64 (by omega) (by omega)]) | (refine guardV_split (fun h => ?_) (fun h => ?_) <;> (try rw [h]) <;> (try simp at h) <;> (try (exfalso; omega))) | (refine nth_get hpi ?_))
      refine add_c hok o1 (by omega) ?_
      have l0 : σ.objs.length < s'.objs.length := (List.getElem?_eq_some_iff.1 o0).1
      have l1 : σ.objs.length + 1 < s'.objs.length := (List.getElem?_eq_some_iff.1 o1).1
      repeat' (first | (simp -dsimp only [↓reduceIte, go_sem, t0, t4, t5, t6, t12, t13, t14, w1]) | (refine arr_intro fun _ => ?_) | (refine later_intro ⟨keeps_nil, ?_⟩) | (refine later_intro ⟨keeps_refl, ?_⟩) | (with_reducible refine keeps_go ?_ ?_; focus (first | (simp [keeps_cons, keeps_none, objs_app, objs_app0]; done) | (simp only [keeps_cons, keeps_none, objs_app0, objs_app, and_true]; first | rfl | exact ⟨rfl, rfl⟩ | exact ⟨rfl, rfl, rfl⟩))) | (with_reducible refine (And.intro (a := keeps _ _ _) ?_ ?_); focus (first | (simp [keeps_cons, keeps_none, objs_app, objs_app0]; done) | (simp only [keeps_cons, keeps_none, objs_app0, objs_app, and_true]; first | rfl | exact ⟨rfl, rfl⟩ | exact ⟨rfl, rfl, rfl⟩))) | (refine both_ways ?_ ?_) | (rw [wrap_i64 (by omega) (by omega)]) | (refine guardV_split (fun h => ?_) (fun h => ?_) <;> (try rw [h]) <;> (try simp at h) <;> (try (exfalso; omega))))
      refine later_intro ⟨i + 1, by omega, by omega, hx.set (by omega), ?_, ?_, ?_, ?_, ?_, ?_, ?_, ?_, ?_⟩ <;> (try simp only [go_sem, t0, t4, t5, t6, t12, t13, t14]) <;> (try rfl)
      · simp only [AST.set]; rw [List.getElem?_set_ne (by omega)]; exact o0
      · simp only [AST.set]; rw [List.getElem?_set_self l1, e2]
    · obtain rfl : i = ps.length := by omega
      have hlt1 : ¬ ((ps.length : Nat) : Int) < ps.length := by omega
      rw [List.take_length] at o1
      have c0 := cellAt_known o0
      have c1 := cellAt_known o1
      have l0 : σ.objs.length < s'.objs.length := (List.getElem?_eq_some_iff.1 o0).1
      have g : ∀ v q, cellAt (s'.set σ.objs.length (.cells v)) σ.objs.length q = v.at q := fun v q => cellAt_known (by simp only [AST.set]; rw [List.getElem?_set_self l0]) q
      repeat' (first | (simp -dsimp only [↓reduceIte, go_sem, t0, t4, t5, t6, t12, t13, t14, hlt1, c0, c1, o0, g]) | (refine arr_intro fun _ => ?_) | (refine later_intro ⟨keeps_nil, ?_⟩) | (refine later_intro ⟨keeps_refl, ?_⟩) | (with_reducible refine keeps_go ?_ ?_; focus (first | (simp [keeps_cons, keeps_none, objs_app, objs_app0]; done) | (simp only [keeps_cons, keeps_none, objs_app0, objs_app, and_true]; first | rfl | exact ⟨rfl, rfl⟩ | exact ⟨rfl, rfl, rfl⟩))) | (with_reducible refine (And.intro (a := keeps _ _ _) ?_ ?_); focus (first | (simp [keeps_cons, keeps_none, objs_app, objs_app0]; done) | (simp only [keeps_cons, keeps_none, objs_app0, objs_app, and_true]; first | rfl | exact ⟨rfl, rfl⟩ | exact ⟨rfl, rfl, rfl⟩))) | (refine both_ways ?_ ?_) | (rw [wrap_i64 (by omega) (by omega)]) | (refine guardV_split (fun h => ?_) (fun h => ?_) <;> (try rw [h]) <;> (try simp at h) <;> (try (exfalso; omega))))
      exact ⟨hx.set (by omega), by simp [AV.noRef, AV.noRefs, shpPs], by simpa [AV.strip, AV.strips, shpPs] using hK⟩
theorem build_parts {ps : List Part} {n : Nat} {fs : List (Nat × AV)} {KV : AV → Prop} (h1 : fs.map (·.1) = List.range n) (h2 : fs.map (·.2) = ps.map partV) (hl : n ≤ 100) (h : KV (.slice .full (ps.map partV))) : buildSliceW Try.prog 164 n fs KV :=
  build_slice E164 h1 (by omega) (by rw [h2]; intro v hv; obtain ⟨x, _, rfl⟩ := List.mem_map.1 hv; simp [go_sem]) (by rw [h2]; exact h)
attribute [local go_sem] subPs_0 subAt_0 subPs_1 subAt_1 subPs_2 subAt_2 Try.underlying67
attribute [local go_sem] Try.underlying135 Try.underlying136 Try.underlying138 zero138 zt138 built138
def shpOf (k : Int) (ps : List Part) : Shp := ⟨k, ((nlen k + lens ps : Nat) : Int)⟩
section
variable {σ : AST} {K : AV → AST → Prop}
theorem put31_c {o n c : Int} (ho : Rng o) (hn : Rng n) (hc : c ≤ 4398046511104) (hK : K (.agg (shpPs (shpOf 4 [.num o, .num n, .txt c, .sgn]))) σ) : TCalls Try.prog 27 [.int .i64 o, .int .i64 n, .int .i64 c] σ K := by
  refine TCalls.drop ?_
  have g : ∀ v w p, cellAt ((σ.app [.cells v]).set σ.objs.length (.cells w)) σ.objs.length p = w.at p := fun v w p => cellAt_known (by simp [AST.set, AST.app]) p
  have fin : ∀ s' x, Ext σ s' → K (.agg (shpPs x)) σ → Ext σ s' ∧ (AV.agg (shpPs x)).noRef = true ∧ K (AV.agg (shpPs x)).strip σ := fun s' x hx h => ⟨hx, by simp [AV.noRef, AV.noRefs, shpPs], by simpa [AV.strip, AV.strips, shpPs] using h⟩
  refine tcalls_walk Try.f27 _ [.cell 6 58] Try.func27 rfl rfl rfl mixed (Nat.le_of_ble_eq_true rfl) rfl fun hlen => ?_
  repeat' (first | (simp -dsimp only [↓reduceIte, go_sem, g]) | (refine arr_intro fun _ => ?_) | (refine later_intro ⟨keeps_nil, ?_⟩) | (refine later_intro ⟨keeps_refl, ?_⟩) | (with_reducible refine keeps_go ?_ ?_; focus (first | (simp [keeps_cons, keeps_none, objs_app, objs_app0]; done) | (simp only [keeps_cons, keeps_none, objs_app0, objs_app, and_true]; first | rfl | exact ⟨rfl, rfl⟩ | exact ⟨rfl, rfl, rfl⟩))) | (with_reducible refine (And.intro (a := keeps _ _ _) ?_ ?_); focus (first | (simp [keeps_cons, keeps_none, objs_app, objs_app0]; done) | (simp only [keeps_cons, keeps_none, objs_app0, objs_app, and_true]; first | rfl | exact ⟨rfl, rfl⟩ | exact ⟨rfl, rfl, rfl⟩))) | (refine both_ways ?_ ?_) | (rw [wrap_i64 (by omega) (by omega)]) | (refine guardV_split (fun h => ?_) (fun h => ?_) <;> (try rw [h]) <;> (try simp at h) <;> (try (exfalso; omega))) | (refine build_parts (ps := [.num o, .num n, .txt c, .sgn]) rfl rfl (by decide) ?_) | (refine shape_c (ps := [.num o, .num n, .txt c, .sgn]) ⟨by decide, by decide⟩ (by intro p hp; simp only [List.mem_cons, List.not_mem_nil, or_false] at hp; rcases hp with rfl | rfl | rfl | rfl <;> first | exact trivial | assumption) (by simp) ?_))
  exact fin _ _ (Ext.app _ _) hK
theorem submit31_c {o c : Int} {x : Sub} (ho : Rng o) (h1 : Rng x.num) (h2 : Rng x.kind) (h3 : Rng x.target) (hc : c ≤ 4398046511104)
    (hK : K (.agg (shpPs (shpOf 1 [.num o, .num x.num, .num x.kind, .num x.target, .txt c, .sgn, .sgn]))) σ) : TCalls Try.prog 25 [.int .i64 o, subV x, .int .i64 c] σ K := by
  refine TCalls.drop ?_
  have g : ∀ v w p, cellAt ((σ.app [.cells v]).set σ.objs.length (.cells w)) σ.objs.length p = w.at p := fun v w p => cellAt_known (by simp [AST.set, AST.app]) p
  have fin : ∀ s' x, Ext σ s' → K (.agg (shpPs x)) σ → Ext σ s' ∧ (AV.agg (shpPs x)).noRef = true ∧ K (AV.agg (shpPs x)).strip σ := fun s' x hx h => ⟨hx, by simp [AV.noRef, AV.noRefs, shpPs], by simpa [AV.strip, AV.strips, shpPs] using h⟩
  refine tcalls_walk Try.f25 _ [.cell 6 58] Try.func25 rfl rfl rfl mixed (Nat.le_of_ble_eq_true rfl) rfl fun hlen => ?_
  repeat' (first | (simp -dsimp only [↓reduceIte, go_sem, g]) | (refine arr_intro fun _ => ?_) | (refine later_intro ⟨keeps_nil, ?_⟩) | (refine later_intro ⟨keeps_refl, ?_⟩) | (with_reducible refine keeps_go ?_ ?_; focus (first | (simp [keeps_cons, keeps_none, objs_app, objs_app0]; done) | (simp only [keeps_cons, keeps_none, objs_app0, objs_app, and_true]; first | rfl | exact ⟨rfl, rfl⟩ | exact ⟨rfl, rfl, rfl⟩))) | (with_reducible refine (And.intro (a := keeps _ _ _) ?_ ?_); focus (first | (simp [keeps_cons, keeps_none, objs_app, objs_app0]; done) | (simp only [keeps_cons, keeps_none, objs_app0, objs_app, and_true]; first | rfl | exact ⟨rfl, rfl⟩ | exact ⟨rfl, rfl, rfl⟩))) | (refine both_ways ?_ ?_) | (rw [wrap_i64 (by omega) (by omega)]) | (refine guardV_split (fun h => ?_) (fun h => ?_) <;> (try rw [h]) <;> (try simp at h) <;> (try (exfalso; omega))) | (refine build_parts (ps := [.num o, .num x.num, .num x.kind, .num x.target, .txt c, .sgn, .sgn]) rfl rfl (by decide) ?_) | (refine shape_c (ps := [.num o, .num x.num, .num x.kind, .num x.target, .txt c, .sgn, .sgn]) ⟨by decide, by decide⟩ (by intro p hp; simp only [List.mem_cons, List.not_mem_nil, or_false] at hp; rcases hp with rfl | rfl | rfl | rfl | rfl | rfl | rfl <;> first | exact trivial | assumption) (by simp) ?_))
  exact fin _ _ (Ext.app _ _) hK
def smallS (k o : Int) : Shp := if k = 9 then shpOf 9 [.num o] else if k = 11 then shpOf 11 [.num o, .sgn] else shp0
theorem small31_c {k o : Int} (ho : Rng o) (hK : K (.agg (shpPs (smallS k o))) σ) : TCalls Try.prog 30 [.int .i64 k, .int .i64 o] σ K := by
  refine TCalls.drop ?_
  have g : ∀ v w p, cellAt ((σ.app [.cells v]).set σ.objs.length (.cells w)) σ.objs.length p = w.at p := fun v w p => cellAt_known (by simp [AST.set, AST.app]) p
  have fin : ∀ s' x, Ext σ s' → K (.agg (shpPs x)) σ → Ext σ s' ∧ (AV.agg (shpPs x)).noRef = true ∧ K (AV.agg (shpPs x)).strip σ := fun s' x hx h => ⟨hx, by simp [AV.noRef, AV.noRefs, shpPs], by simpa [AV.strip, AV.strips, shpPs] using h⟩
  by_cases h9 : k = 9
  · have e : smallS k o = shpOf 9 [.num o] := by unfold smallS; rw [if_pos h9]
    rw [e] at hK
    subst h9
    refine tcalls_walk Try.f30 _ [.cell 4 58] Try.func30 rfl rfl rfl mixed (Nat.le_of_ble_eq_true rfl) rfl fun hlen => ?_
    repeat' (first | (simp -dsimp only [↓reduceIte, go_sem, g]) | (refine arr_intro fun _ => ?_) | (refine later_intro ⟨keeps_nil, ?_⟩) | (refine later_intro ⟨keeps_refl, ?_⟩) | (with_reducible refine keeps_go ?_ ?_; focus (first | (simp [keeps_cons, keeps_none, objs_app, objs_app0]; done) | (simp only [keeps_cons, keeps_none, objs_app0, objs_app, and_true]; first | rfl | exact ⟨rfl, rfl⟩ | exact ⟨rfl, rfl, rfl⟩))) | (with_reducible refine (And.intro (a := keeps _ _ _) ?_ ?_); focus (first | (simp [keeps_cons, keeps_none, objs_app, objs_app0]; done) | (simp only [keeps_cons, keeps_none, objs_app0, objs_app, and_true]; first | rfl | exact ⟨rfl, rfl⟩ | exact ⟨rfl, rfl, rfl⟩))) | (refine both_ways ?_ ?_) | (rw [wrap_i64 (by omega) (by omega)]) | (refine guardV_split (fun h => ?_) (fun h => ?_) <;> (try rw [h]) <;> (try simp at h) <;> (try (exfalso; omega))) | (refine build_parts (ps := [.num o]) rfl rfl (by decide) ?_) | (refine shape_c (ps := [.num o]) ⟨by decide, by decide⟩ (by intro p hp; simp only [List.mem_cons, List.not_mem_nil, or_false] at hp; subst hp; assumption) (by simp) ?_))
    exact fin _ _ (Ext.app _ _) hK
  by_cases h11 : k = 11
  · have e : smallS k o = shpOf 11 [.num o, .sgn] := by unfold smallS; rw [if_neg h9, if_pos h11]
    rw [e] at hK
    subst h11
    refine tcalls_walk Try.f30 _ [.cell 4 58] Try.func30 rfl rfl rfl mixed (Nat.le_of_ble_eq_true rfl) rfl fun hlen => ?_
    repeat' (first | (simp -dsimp only [↓reduceIte, go_sem, g]) | (refine arr_intro fun _ => ?_) | (refine later_intro ⟨keeps_nil, ?_⟩) | (refine later_intro ⟨keeps_refl, ?_⟩) | (with_reducible refine keeps_go ?_ ?_; focus (first | (simp [keeps_cons, keeps_none, objs_app, objs_app0]; done) | (simp only [keeps_cons, keeps_none, objs_app0, objs_app, and_true]; first | rfl | exact ⟨rfl, rfl⟩ | exact ⟨rfl, rfl, rfl⟩))) | (with_reducible refine (And.intro (a := keeps _ _ _) ?_ ?_); focus (first | (simp [keeps_cons, keeps_none, objs_app, objs_app0]; done) | (simp only [keeps_cons, keeps_none, objs_app0, objs_app, and_true]; first | rfl | exact ⟨rfl, rfl⟩ | exact ⟨rfl, rfl, rfl⟩))) | (refine both_ways ?_ ?_) | (rw [wrap_i64 (by omega) (by omega)]) | (refine guardV_split (fun h => ?_) (fun h => ?_) <;> (try rw [h]) <;> (try simp at h) <;> (try (exfalso; omega))) | (refine build_parts (ps := [.num o, .sgn]) rfl rfl (by decide) ?_) | (refine shape_c (ps := [.num o, .sgn]) ⟨by decide, by decide⟩ (by intro p hp; simp only [List.mem_cons, List.not_mem_nil, or_false] at hp; rcases hp with rfl | rfl <;> first | exact trivial | assumption) (by simp) ?_))
    exact fin _ _ (Ext.app _ _) hK
  · have e : smallS k o = shp0 := by unfold smallS; rw [if_neg h9, if_neg h11]
    rw [e] at hK
    have d9 : (k == 9) = false := by simpa using h9
    have d11 : (k == 11) = false := by simpa using h11
    refine tcalls_walk Try.f30 _ [.cell 4 58] Try.func30 rfl rfl rfl mixed (Nat.le_of_ble_eq_true rfl) rfl fun hlen => ?_
    repeat' (first | (simp -dsimp only [↓reduceIte, go_sem, g, d9, d11]) | (refine arr_intro fun _ => ?_) | (refine later_intro ⟨keeps_nil, ?_⟩) | (refine later_intro ⟨keeps_refl, ?_⟩) | (with_reducible refine keeps_go ?_ ?_; focus (first | (simp [keeps_cons, keeps_none, objs_app, objs_app0]; done) | (simp only [keeps_cons, keeps_none, objs_app0, objs_app, and_true]; first | rfl | exact ⟨rfl, rfl⟩ | exact ⟨rfl, rfl, rfl⟩))) | (with_reducible refine (And.intro (a := keeps _ _ _) ?_ ?_); focus (first | (simp [keeps_cons, keeps_none, objs_app, objs_app0]; done) | (simp only [keeps_cons, keeps_none, objs_app0, objs_app, and_true]; first | rfl | exact ⟨rfl, rfl⟩ | exact ⟨rfl, rfl, rfl⟩))) | (refine both_ways ?_ ?_) | (rw [wrap_i64 (by omega) (by omega)]) | (refine guardV_split (fun h => ?_) (fun h => ?_) <;> (try rw [h]) <;> (try simp at h) <;> (try (exfalso; omega))))
    exact fin _ _ (Ext.app _ _) hK
end
section
variable {σ : AST} {K : AV → AST → Prop}
end
attribute [local go_sem] Try.underlying3 Try.underlying5 Try.underlying9 Try.underlying123
attribute [local go_sem] fits9 fits31
structure Node where
  num : Int
  kind : Int
  data : List UInt8
  names : List (List UInt8)
  nodes : List Int
def nd0 : Node := ⟨0, 0, [], [], []⟩
def ndPs (t0 t1 : Tk) (x : Node) : List AV := [.int .i64 x.num, .int .i64 x.kind, .str x.data, .slice t0 (x.names.map AV.str), .slice t1 (x.nodes.map (AV.int .i64))]
abbrev ndV (t0 t1 : Tk) (x : Node) : AV := .agg (ndPs t0 t1 x)
theorem ndPs_0 {t0 t1 : Tk} {x : Node} : (ndPs t0 t1 x)[0]? = some (.int .i64 x.num) := nr rfl
theorem ndAt_0 {t0 t1 : Tk} {x : Node} {v : AV} : partIs Try.prog 102 (ndPs t0 t1 x) 0 v = fits Try.prog 3 v := by rw [partIs_of (o := 0) (T := 3) (by kernel_rfl)]; simp [ndPs, AV.sizes, AV.size]
theorem ndSet_0 {t0 t1 : Tk} {x : Node} {y : Int} : (ndPs t0 t1 x).set 0 (.int .i64 y) = ndPs t0 t1 { x with num := y } := nr rfl
theorem ndPs_1 {t0 t1 : Tk} {x : Node} : (ndPs t0 t1 x)[1]? = some (.int .i64 x.kind) := nr rfl
theorem ndAt_1 {t0 t1 : Tk} {x : Node} {v : AV} : partIs Try.prog 102 (ndPs t0 t1 x) 1 v = fits Try.prog 3 v := by rw [partIs_of (o := 1) (T := 3) (by kernel_rfl)]; simp [ndPs, AV.sizes, AV.size]
theorem ndSet_1 {t0 t1 : Tk} {x : Node} {y : Int} : (ndPs t0 t1 x).set 1 (.int .i64 y) = ndPs t0 t1 { x with kind := y } := nr rfl
theorem ndPs_2 {t0 t1 : Tk} {x : Node} : (ndPs t0 t1 x)[2]? = some (.str x.data) := nr rfl
theorem ndAt_2 {t0 t1 : Tk} {x : Node} {v : AV} : partIs Try.prog 102 (ndPs t0 t1 x) 2 v = fits Try.prog 9 v := by rw [partIs_of (o := 2) (T := 9) (by kernel_rfl)]; simp [ndPs, AV.sizes, AV.size]
theorem ndSet_2 {t0 t1 : Tk} {x : Node} {y : List UInt8} : (ndPs t0 t1 x).set 2 (.str y) = ndPs t0 t1 { x with data := y } := nr rfl
theorem ndPs_3 {t0 t1 : Tk} {x : Node} : (ndPs t0 t1 x)[3]? = some (.slice t0 (x.names.map AV.str)) := nr rfl
theorem ndAt_3 {t0 t1 : Tk} {x : Node} {v : AV} : partIs Try.prog 102 (ndPs t0 t1 x) 3 v = fits Try.prog 43 v := by rw [partIs_of (o := 3) (T := 43) (by kernel_rfl)]; simp [ndPs, AV.sizes, AV.size]
theorem ndSet_3 {t0 t1 : Tk} {u0 : Tk} {x : Node} {y : List (List UInt8)} : (ndPs t0 t1 x).set 3 (.slice u0 (y.map AV.str)) = ndPs u0 t1 { x with names := y } := nr rfl
theorem ndPs_4 {t0 t1 : Tk} {x : Node} : (ndPs t0 t1 x)[4]? = some (.slice t1 (x.nodes.map (AV.int .i64))) := nr rfl
theorem ndAt_4 {t0 t1 : Tk} {x : Node} {v : AV} : partIs Try.prog 102 (ndPs t0 t1 x) 4 v = fits Try.prog 50 v := by rw [partIs_of (o := 4) (T := 50) (by kernel_rfl)]; simp [ndPs, AV.sizes, AV.size]
theorem ndSet_4 {t0 t1 : Tk} {u0 : Tk} {x : Node} {y : List Int} : (ndPs t0 t1 x).set 4 (.slice u0 (y.map (AV.int .i64))) = ndPs t0 u0 { x with nodes := y } := nr rfl
theorem sizes_nd {t0 t1 : Tk} {x : Node} : AV.sizes (ndPs t0 t1 x) = 5 := by simp [ndPs, AV.sizes, AV.size]
theorem shapes_nd {t0 t1 : Tk} {x : Node} : AV.shapes (ndPs t0 t1 x) = [.leaf, .leaf, .leaf, .leaf, .leaf] := by simp [ndPs, AV.shapes, AV.shape]
theorem fits_nd {v : AV} : fits Try.prog 102 v = (v.isAgg = true ∧ v.size = 5) := fits_agg (by kernel_rfl) (by kernel_rfl)
theorem zero_nd : zeroA Try.prog 12 102 = .agg (ndPs .full .full nd0) := by kernel_rfl
theorem zt_nd : ZeroOf Try.prog 102 (.agg (ndPs .full .full nd0)) = True := eq_true ⟨_, _, rfl, rfl, rfl, rfl, rfl⟩
theorem built_nd : Built Try.prog 102 = True := eq_true (by unfold Built; rw [Try.underlying102]; decide +kernel)
/-ATTR ndPs_0 ndAt_0 ndSet_0 ndPs_1 ndAt_1 ndSet_1 ndPs_2 ndAt_2 ndSet_2 ndPs_3 ndAt_3 ndSet_3 ndPs_4 ndAt_4 ndSet_4 sizes_nd shapes_nd fits_nd zero_nd zt_nd built_nd Try.underlying102 -/
theorem fits43 {v : AV} : fits Try.prog 43 v = (v.isAgg = false ∧ v.size = 1) := fits_leaf (by kernel_rfl) (by kernel_rfl)
attribute [local go_sem] ndPs_0 ndAt_0 ndSet_0 ndPs_1 ndAt_1 ndSet_1 ndPs_2 ndAt_2 ndSet_2 ndPs_3 ndAt_3 ndSet_3 ndPs_4 ndAt_4 ndSet_4 sizes_nd fits_nd zero_nd zt_nd built_nd Try.underlying102 Try.underlying123 Try.underlying84 Try.underlying22 fits43 L21.zt46 L21.zero46 L21.agg_leaf L21.known_leaf L21.fits46 L21.p46_0 L21.p46_1 L21.p46_2 L21.p46_4 L21.p46_5
abbrev TL := L21.TLeaf
structure TNd where
  x : Node
  t : Tk
  u : Tk
def ndX (y : TNd) : AV := ndV y.t y.u y.x
def nodeOf (y : L21.Leaf) : Node := ⟨y.num, y.kind, List.replicate (max 0 (min y.size 512)).toNat 0, y.names, y.nodes⟩
theorem E52 : ElemT Try.prog 52 102 5 80 := ⟨rfl, by kernel_rfl, by kernel_rfl, ⟨_, of_eq_true zt_nd⟩, by decide⟩
theorem size_nds {l : List TNd} : ∀ v ∈ l.map ndX, v.size = 5 := by
  intro v hv; obtain ⟨x, _, rfl⟩ := List.mem_map.1 hv; simp only [ndX, AV.size, sizes_nd]
theorem append_nd {a : List TNd} {y : TNd} {tk tk2 : Tk} {σ : AST} {K : AV → AST → Prop} (hca : canApp σ tk a.length 5) (hl : a.length ≤ 5000) (hK : K (.slice (growT σ tk) ((a ++ [y]).map ndX)) (growS σ tk (a.length + 1) 5)) :
    appendW Try.prog ⟨[52, 52]⟩ (.slice tk (a.map ndX)) (.slice tk2 [ndX y]) σ K := by
  refine append_slice E52 rfl (by rw [List.length_map]; exact hca) (by intro v hv; simp at hv; subst hv; simp only [ndX, AV.size, sizes_nd]) size_nds (by simp; omega) (by simp [maxL]; omega) ?_
  simpa using hK
theorem make_zeros {n : Int} {σ : AST} {K : AV → AST → Prop} (h0 : 0 ≤ n) (h1 : n ≤ 512) (hK : K (.slice .full (u8s (List.replicate n.toNat 0))) σ) : makeSliceW Try.prog 123 (.int .i64 n) (.int .i64 n) σ K := by
  refine ⟨h0, Int.le_refl _, 5, .int .u8 0, Try.underlying123, ⟨_, _, rfl, rfl, rfl, rfl, rfl⟩, by decide +kernel, ?_, by omega, .inr (.inl ⟨rfl, ?_⟩)⟩
  · have h : Try.prog.bytesOf 5 = 1 := by kernel_rfl
    rw [h]; omega
  · simpa [u8s] using hK
section
variable {σ : AST} {K : AV → AST → Prop}
def NodesOf (l : List TL) (L : List TNd) : Prop := L.map (·.x) = l.map fun y => nodeOf y.x
theorem nodes_of_next {l : List TL} {L : List TNd} {i : Nat} {y : TL} {z : TNd} (h : NodesOf (l.take i) L) (hy : l[i]? = some y) (hz : z.x = nodeOf y.x) : NodesOf (l.take (i + 1)) (L ++ [z]) := by
  have hi := (List.getElem?_eq_some_iff.1 hy).1
  have e : l.take (i + 1) = l.take i ++ [y] := by rw [← (List.getElem?_eq_some_iff.1 hy).2]; exact (List.take_append_getElem hi).symm
  unfold NodesOf at h ⊢
  rw [e, List.map_append, List.map_append, h]; simp [hz]
theorem rnodes_c {l : List TL} {tk : Tk} (hl : l.length ≤ 1000) (hs : ∀ y ∈ l, 0 ≤ y.x.size ∧ y.x.size ≤ 512) (hK : ∀ s' t L, NodesOf l L → Ext σ s' → K (.slice t (L.map ndX)) s') : TCalls Try.prog 80 [.slice tk (l.map L21.leafV)] σ K := by
  refine tcalls_walk Try.f80 _ [.tmp 2] Try.func80 rfl rfl rfl mixed (Nat.le_of_ble_eq_true rfl) rfl fun hlen => ?_
  repeat' (first | (simp -dsimp only [↓reduceIte, go_sem]) | (refine arr_intro fun _ => ?_) | (refine later_intro ⟨keeps_nil, ?_⟩) | (refine later_intro ⟨keeps_refl, ?_⟩) | (with_reducible refine keeps_go ?_ ?_; focus (first | (simp [keeps_cons, keeps_none, objs_app, objs_app0]; done) | (simp only [keeps_cons, keeps_none, objs_app0, objs_app, and_true]; first | rfl | exact ⟨rfl, rfl⟩ | exact ⟨rfl, rfl, rfl⟩))) | (with_reducible refine (And.intro (a := keeps _ _ _) ?_ ?_); focus (first | (simp [keeps_cons, keeps_none, objs_app, objs_app0]; done) | (simp only [keeps_cons, keeps_none, objs_app0, objs_app, and_true]; first | rfl | exact ⟨rfl, rfl⟩ | exact ⟨rfl, rfl, rfl⟩))) | (refine both_ways ?_ ?_) | (rw [wrap_i64 (by omega) (by omega)]) | (refine guardV_split (fun h => ?_) (fun h => ?_) <;> (try rw [h]) <;> (try simp at h) <;> (try (exfalso; omega))))
  refine awp_rounds (fun (i : Nat) τ s => ∃ t L, i ≤ l.length ∧ NodesOf (l.take i) L ∧ Gr σ s t L.length 5 ∧ τ 0 = .slice tk (l.map L21.leafV) ∧ τ 3 = .slice t (L.map ndX) ∧ τ 4 = .int .i64 i) (fun i => l.length - i) 0 ?_ ?_
  · refine ⟨.full, [], by omega, rfl, Gr.start, ?_, ?_, ?_⟩ <;> (try simp only [go_sem]) <;> (try rfl)
  · rintro i τ s ⟨t, L, hi, hN, hG, t0, t3, t4⟩
    by_cases hlt : i < l.length
    · have hlt1 : (i : Int) < l.length := by omega
      have hy : l[i]? = some l[i] := List.getElem?_eq_getElem hlt
      have hz := hs _ (List.getElem_mem hlt)
      generalize l[i] = y at hy hz
      have w1 : IntKind.i64.wrap ((i : Int) + 1) = (i : Int) + 1 := wrap_i64 (by omega) (by omega)
      have hLl : L.length = i := by have := congrArg List.length hN; simp at this; omega
      repeat' (first | (simp -dsimp only [↓reduceIte, go_sem, t0, t3, t4, hlt1, w1, L21.leafV]) | (refine arr_intro fun _ => ?_) | (refine later_intro ⟨keeps_nil, ?_⟩) | (refine later_intro ⟨keeps_refl, ?_⟩) | (with_reducible refine keeps_go ?_ ?_; focus (first | (simp [keeps_cons, keeps_none, objs_app, objs_app0]; done) | (simp only [keeps_cons, keeps_none, objs_app0, objs_app, and_true]; first | rfl | exact ⟨rfl, rfl⟩ | exact ⟨rfl, rfl, rfl⟩))) | (with_reducible refine (And.intro (a := keeps _ _ _) ?_ ?_); focus (first | (simp [keeps_cons, keeps_none, objs_app, objs_app0]; done) | (simp only [keeps_cons, keeps_none, objs_app0, objs_app, and_true]; first | rfl | exact ⟨rfl, rfl⟩ | exact ⟨rfl, rfl, rfl⟩))) | (refine both_ways ?_ ?_) | (rw [wrap_i64 (by omega) (by omega)]) | (refine guardV_split (fun h => ?_) (fun h => ?_) <;> (try rw [h]) <;> (try simp at h) <;> (try (exfalso; omega))) | (with_reducible refine awp_drawU (id := 6) (.op 0 0 (.op 1 0 (.op 2 0 (.op 3 0 (.op 4 0 (.op 5 2 (.op 6 2 (.op 9 0 (.op 10 0 (.op 11 0 (.op 12 0 (.op 7 1 (.cut (.op 8 2 (.op 13 2 (.op 14 2 (.op 15 1 (.op 16 2 .nil)))))))))))))))))) (by kernel_rfl) ?_) | (refine nth_get hy ?_) | (refine make_zeros hz.1 hz.2 ?_))
      have e : AV.agg (ndPs y.t2 y.t3 { num := y.x.num, kind := y.x.kind, data := List.replicate y.x.size.toNat 0, names := y.x.names, nodes := y.x.nodes }) = ndX ⟨nodeOf y.x, y.t2, y.t3⟩ := by
        have : (max 0 (min y.x.size 512)).toNat = y.x.size.toNat := by omega
        simp only [ndX, nodeOf, this]
      rw [e]
      have hga := fun l => hG.app (l := l)
      repeat' (first | (simp -dsimp only [↓reduceIte, go_sem, t0, t3, t4, w1]) | (refine arr_intro fun _ => ?_) | (refine later_intro ⟨keeps_nil, ?_⟩) | (refine later_intro ⟨keeps_refl, ?_⟩) | (with_reducible refine keeps_go ?_ ?_; focus (first | (simp [keeps_cons, keeps_none, objs_app, objs_app0]; done) | (simp only [keeps_cons, keeps_none, objs_app0, objs_app, and_true]; first | rfl | exact ⟨rfl, rfl⟩ | exact ⟨rfl, rfl, rfl⟩))) | (with_reducible refine (And.intro (a := keeps _ _ _) ?_ ?_); focus (first | (simp [keeps_cons, keeps_none, objs_app, objs_app0]; done) | (simp only [keeps_cons, keeps_none, objs_app0, objs_app, and_true]; first | rfl | exact ⟨rfl, rfl⟩ | exact ⟨rfl, rfl, rfl⟩))) | (refine both_ways ?_ ?_) | (rw [wrap_i64 (by omega) (by omega)]) | (refine guardV_split (fun h => ?_) (fun h => ?_) <;> (try rw [h]) <;> (try simp at h) <;> (try (exfalso; omega))) | (refine build_slice E52 rfl (by decide) (by intro v hv; simp at hv; subst hv; simp [go_sem, ndX]) ?_) | (refine append_nd (hga _).c (by omega) ?_))
      refine later_intro ⟨i + 1, by omega, growT (s.app [.cells (L21.leafV y)]) t, L ++ [⟨nodeOf y.x, y.t2, y.t3⟩], by omega, nodes_of_next hN hy rfl, ?_, ?_, ?_, ?_⟩ <;> (try simp only [go_sem, t0, t3, t4]) <;> (try rfl)
      rw [List.length_append]
      exact (hga _).grow
    · obtain rfl : i = l.length := by omega
      have hlt1 : ¬ ((l.length : Nat) : Int) < l.length := by omega
      rw [List.take_length] at hN
      repeat' (first | (simp -dsimp only [↓reduceIte, go_sem, t0, t3, t4, hlt1]) | (refine arr_intro fun _ => ?_) | (refine later_intro ⟨keeps_nil, ?_⟩) | (refine later_intro ⟨keeps_refl, ?_⟩) | (with_reducible refine keeps_go ?_ ?_; focus (first | (simp [keeps_cons, keeps_none, objs_app, objs_app0]; done) | (simp only [keeps_cons, keeps_none, objs_app0, objs_app, and_true]; first | rfl | exact ⟨rfl, rfl⟩ | exact ⟨rfl, rfl, rfl⟩))) | (with_reducible refine (And.intro (a := keeps _ _ _) ?_ ?_); focus (first | (simp [keeps_cons, keeps_none, objs_app, objs_app0]; done) | (simp only [keeps_cons, keeps_none, objs_app0, objs_app, and_true]; first | rfl | exact ⟨rfl, rfl⟩ | exact ⟨rfl, rfl, rfl⟩))) | (refine both_ways ?_ ?_) | (rw [wrap_i64 (by omega) (by omega)]) | (refine guardV_split (fun h => ?_) (fun h => ?_) <;> (try rw [h]) <;> (try simp at h) <;> (try (exfalso; omega))))
      exact hK _ _ _ hN hG.x
theorem _root_.Go.Aff.Gr.other {σ s : AST} {tk : Tk} {n e m f : Nat} (h : Gr σ s tk n e) : Gr σ (growS s .full m f) tk n e := ⟨h.x.trans (Ext.growFull _ _ _), h.t, canApp_apart apart_full h.c⟩
theorem append_names {b : List (List UInt8)} {tk2 : Tk} {σ : AST} {K : AV → AST → Prop} (hl : b.length ≤ 5000) (hK : K (.slice (growT σ .full) (b.map AV.str)) (growS σ .full b.length 1)) :
    appendW Try.prog ⟨[43, 43]⟩ (.slice .full []) (.slice tk2 (b.map AV.str)) σ K := by
  refine append_slice (xs := []) L21.E29 rfl trivial (by intro v hv; obtain ⟨x, _, rfl⟩ := List.mem_map.1 hv; rfl) (by intro v hv; simp at hv) (by simp; omega) (by simp [maxL]; omega) ?_
  simpa using hK
theorem append_kids {b : List Int} {tk2 : Tk} {σ : AST} {K : AV → AST → Prop} (hl : b.length ≤ 5000) (hK : K (.slice (growT σ .full) (b.map (AV.int .i64))) (growS σ .full b.length 1)) :
    appendW Try.prog ⟨[50, 50]⟩ (.slice .full []) (.slice tk2 (b.map (AV.int .i64))) σ K := by
  refine append_slice (xs := []) L21.E44 rfl trivial (by intro v hv; obtain ⟨x, _, rfl⟩ := List.mem_map.1 hv; rfl) (by intro v hv; simp at hv) (by simp; omega) (by simp [maxL]; omega) ?_
  simpa using hK
theorem inodes_c {l : List TL} {tk : Tk} (hl : l.length ≤ 1000) (hs : ∀ y ∈ l, y.x.names.length ≤ 5000 ∧ y.x.nodes.length ≤ 5000) (hK : ∀ s' t L, NodesOf l L → Ext σ s' → K (.slice t (L.map ndX)) s') : TCalls Try.prog 76 [.slice tk (l.map L21.leafV)] σ K := by
  refine tcalls_walk Try.f76 _ [.tmp 2] Try.func76 rfl rfl rfl mixed (Nat.le_of_ble_eq_true rfl) rfl fun hlen => ?_
  repeat' (first | (simp -dsimp only [↓reduceIte, go_sem]) | (refine arr_intro fun _ => ?_) | (refine later_intro ⟨keeps_nil, ?_⟩) | (refine later_intro ⟨keeps_refl, ?_⟩) | (with_reducible refine keeps_go ?_ ?_; focus (first | (simp [keeps_cons, keeps_none, objs_app, objs_app0]; done) | (simp only [keeps_cons, keeps_none, objs_app0, objs_app, and_true]; first | rfl | exact ⟨rfl, rfl⟩ | exact ⟨rfl, rfl, rfl⟩))) | (with_reducible refine (And.intro (a := keeps _ _ _) ?_ ?_); focus (first | (simp [keeps_cons, keeps_none, objs_app, objs_app0]; done) | (simp only [keeps_cons, keeps_none, objs_app0, objs_app, and_true]; first | rfl | exact ⟨rfl, rfl⟩ | exact ⟨rfl, rfl, rfl⟩))) | (refine both_ways ?_ ?_) | (rw [wrap_i64 (by omega) (by omega)]) | (refine guardV_split (fun h => ?_) (fun h => ?_) <;> (try rw [h]) <;> (try simp at h) <;> (try (exfalso; omega))))
  refine awp_rounds (fun (i : Nat) τ s => ∃ t L, i ≤ l.length ∧ NodesOf (l.take i) L ∧ Gr σ s t L.length 5 ∧ τ 3 = .slice t (L.map ndX) ∧ τ 7 = .slice tk (l.map L21.leafV) ∧ τ 8 = .int .i64 l.length ∧ τ 9 = .int .i64 i) (fun i => l.length - i) 0 ?_ ?_
  · refine ⟨.full, [], by omega, rfl, Gr.start, ?_, ?_, ?_, ?_⟩ <;> (try simp only [go_sem]) <;> (try rfl)
  · rintro i τ s ⟨t, L, hi, hN, hG, t3, t7, t8, t9⟩
    by_cases hlt : i < l.length
    · have hlt1 : (i : Int) < l.length := by omega
      have hy : l[i]? = some l[i] := List.getElem?_eq_getElem hlt
      have hz := hs _ (List.getElem_mem hlt)
      generalize l[i] = y at hy hz
      have w1 : IntKind.i64.wrap ((i : Int) + 1) = (i : Int) + 1 := wrap_i64 (by omega) (by omega)
      have hLl : L.length = i := by have := congrArg List.length hN; simp at this; omega
      repeat' (first | (simp -dsimp only [↓reduceIte, go_sem, t3, t7, t8, t9, hlt1, w1, L21.leafV]) | (refine arr_intro fun _ => ?_) | (refine later_intro ⟨keeps_nil, ?_⟩) | (refine later_intro ⟨keeps_refl, ?_⟩) | (with_reducible refine keeps_go ?_ ?_; focus (first | (simp [keeps_cons, keeps_none, objs_app, objs_app0]; done) | (simp only [keeps_cons, keeps_none, objs_app0, objs_app, and_true]; first | rfl | exact ⟨rfl, rfl⟩ | exact ⟨rfl, rfl, rfl⟩))) | (with_reducible refine (And.intro (a := keeps _ _ _) ?_ ?_); focus (first | (simp [keeps_cons, keeps_none, objs_app, objs_app0]; done) | (simp only [keeps_cons, keeps_none, objs_app0, objs_app, and_true]; first | rfl | exact ⟨rfl, rfl⟩ | exact ⟨rfl, rfl, rfl⟩))) | (refine both_ways ?_ ?_) | (rw [wrap_i64 (by omega) (by omega)]) | (refine guardV_split (fun h => ?_) (fun h => ?_) <;> (try rw [h]) <;> (try simp at h) <;> (try (exfalso; omega))) | (with_reducible refine awp_drawU (id := 6) (.op 0 0 (.op 1 0 (.op 2 0 (.op 3 0 (.op 4 0 (.op 5 0 (.op 8 0 (.op 9 0 (.op 10 0 (.op 12 0 (.op 13 0 (.op 14 0 (.fork 6 (.op 6 1 (.op 7 0 (.op 11 1 (.op 15 1 (.cut (.op 16 2 (.op 17 2 (.op 18 1 (.op 19 2 .nil))))))))) (.op 11 1 (.fork 6 (.op 6 1 (.op 7 0 (.op 15 1 (.cut (.op 16 2 (.op 17 2 (.op 18 1 (.op 19 2 .nil)))))))) (.op 15 1 (.op 6 1 (.cut (.op 7 2 (.op 16 2 (.op 17 2 (.op 18 1 (.op 19 2 .nil))))))))))))))))))))))) (by kernel_rfl) ?_) | (refine nth_get hy ?_) | (refine make_zeros (by omega) (by omega) ?_) | (refine build_slice L21.E29 rfl (by decide) (by intro v hv; simp at hv) ?_) | (refine build_slice L21.E44 rfl (by decide) (by intro v hv; simp at hv) ?_) | (refine append_names hz.1 ?_) | (refine append_kids hz.2 ?_))
      all_goals
        have e : ∀ t u, AV.agg (ndPs t u { num := y.x.num, kind := y.x.kind, data := List.replicate (max 0 (min y.x.size 512)).toNat 0, names := y.x.names, nodes := y.x.nodes }) = ndX ⟨nodeOf y.x, t, u⟩ := fun t u => rfl
        have hga := fun l a b => (((hG.app (l := l)).other (m := a) (f := 1)).other (m := b) (f := 1))
        rw [e]
        repeat' (first | (simp -dsimp only [↓reduceIte, go_sem, t3, t7, t8, t9, w1]) | (refine arr_intro fun _ => ?_) | (refine later_intro ⟨keeps_nil, ?_⟩) | (refine later_intro ⟨keeps_refl, ?_⟩) | (with_reducible refine keeps_go ?_ ?_; focus (first | (simp [keeps_cons, keeps_none, objs_app, objs_app0]; done) | (simp only [keeps_cons, keeps_none, objs_app0, objs_app, and_true]; first | rfl | exact ⟨rfl, rfl⟩ | exact ⟨rfl, rfl, rfl⟩))) | (with_reducible refine (And.intro (a := keeps _ _ _) ?_ ?_); focus (first | (simp [keeps_cons, keeps_none, objs_app, objs_app0]; done) | (simp only [keeps_cons, keeps_none, objs_app0, objs_app, and_true]; first | rfl | exact ⟨rfl, rfl⟩ | exact ⟨rfl, rfl, rfl⟩))) | (refine both_ways ?_ ?_) | (rw [wrap_i64 (by omega) (by omega)]) | (refine guardV_split (fun h => ?_) (fun h => ?_) <;> (try rw [h]) <;> (try simp at h) <;> (try (exfalso; omega))) | (refine build_slice E52 rfl (by decide) (by intro v hv; simp at hv; subst hv; simp [go_sem, ndX]) ?_) | (refine append_nd (hga _ _ _).c (by omega) ?_))
        refine later_intro ⟨i + 1, by omega, growT (growS (growS (s.app [.cells (L21.leafV y)]) .full y.x.names.length 1) .full y.x.nodes.length 1) t, L ++ [⟨nodeOf y.x, growT (s.app [.cells (L21.leafV y)]) .full, growT (growS (s.app [.cells (L21.leafV y)]) .full y.x.names.length 1) .full⟩], by omega, nodes_of_next hN hy rfl, ?_, ?_, ?_, ?_, ?_⟩ <;> (try simp only [go_sem, t3, t7, t8, t9]) <;> (try rfl)
        rw [List.length_append]
        exact (hga _ _ _).grow
    · obtain rfl : i = l.length := by omega
      have hlt1 : ¬ ((l.length : Nat) : Int) < l.length := by omega
      rw [List.take_length] at hN
      repeat' (first | (simp -dsimp only [↓reduceIte, go_sem, t3, t7, t8, t9, hlt1]) | (refine arr_intro fun _ => ?_) | (refine later_intro ⟨keeps_nil, ?_⟩) | (refine later_intro ⟨keeps_refl, ?_⟩) | (with_reducible refine keeps_go ?_ ?_; focus (first | (simp [keeps_cons, keeps_none, objs_app, objs_app0]; done) | (simp only [keeps_cons, keeps_none, objs_app0, objs_app, and_true]; first | rfl | exact ⟨rfl, rfl⟩ | exact ⟨rfl, rfl, rfl⟩))) | (with_reducible refine (And.intro (a := keeps _ _ _) ?_ ?_); focus (first | (simp [keeps_cons, keeps_none, objs_app, objs_app0]; done) | (simp only [keeps_cons, keeps_none, objs_app0, objs_app, and_true]; first | rfl | exact ⟨rfl, rfl⟩ | exact ⟨rfl, rfl, rfl⟩))) | (refine both_ways ?_ ?_) | (rw [wrap_i64 (by omega) (by omega)]) | (refine guardV_split (fun h => ?_) (fun h => ?_) <;> (try rw [h]) <;> (try simp at h) <;> (try (exfalso; omega))))
      exact hK _ _ _ hN hG.x
end
def entG {κ β : Type} (f : κ → AV) (g : β → AV) (e : Nat × κ × β) : Nat × AV × AV := (e.1, f e.2.1, g e.2.2)
def entI (e : Nat × Int × Nat) : Nat × AV × AV := entG (AV.int .i64) (fun k => AV.ptr (some (k, []))) e
def entS (e : Nat × List UInt8 × Int) : Nat × AV × AV := entG AV.str (AV.int .i64) e
theorem keyI {k : Int} : keyOk Try.prog 40 3 (.int .i64 k) = true := by simp [keyOk, Try.underlying3]
theorem keyS {k : List UInt8} : keyOk Try.prog 40 9 (.str k) = true := by simp [keyOk, Try.underlying9]
theorem eqI3 {a b : Int} : eqA Try.prog 40 3 (.int .i64 a) (.int .i64 b) = some (a == b) := by simp [eqA, Try.underlying3]
theorem eqS9 {a b : List UInt8} : eqA Try.prog 40 9 (.str a) (.str b) = some (a == b) := by simp [eqA, Try.underlying9]
theorem findI {k : Int} : ∀ {E : List (Nat × Int × Nat)}, findE Try.prog 3 (.int .i64 k) (E.map entI) = some (E.findIdx? fun e => e.2.1 == k)
  | [] => rfl
  | e :: E => by
    have ih := findI (k := k) (E := E)
    simp only [List.map_cons, findE, entI, entG, eqK, keyI, if_true, eqI3]
    rw [List.findIdx?_cons]
    by_cases h : e.2.1 = k
    · simp [h]
    · have h1 : (k == e.2.1) = false := by simp; exact fun e' => h e'.symm
      have h2 : (e.2.1 == k) = false := by simp [h]
      rw [h1, h2]
      change (findE Try.prog 3 (.int .i64 k) (E.map entI)).map _ = _
      rw [ih]; simp
theorem findS {k : List UInt8} : ∀ {E : List (Nat × List UInt8 × Int)}, findE Try.prog 9 (.str k) (E.map entS) = some (E.findIdx? fun e => e.2.1 == k)
  | [] => rfl
  | e :: E => by
    have ih := findS (k := k) (E := E)
    simp only [List.map_cons, findE, entS, entG, eqK, keyS, if_true, eqS9]
    rw [List.findIdx?_cons]
    by_cases h : e.2.1 = k
    · simp [h]
    · have h1 : (k == e.2.1) = false := by simp; exact fun e' => h e'.symm
      have h2 : (e.2.1 == k) = false := by simp [h]
      rw [h1, h2]
      change (findE Try.prog 9 (.str k) (E.map entS)).map _ = _
      rw [ih]; simp
def vnPs (k l : Int) (d : List UInt8) (m : Option Nat) : List AV := [.int .i64 k, .int .i64 l, .str d, .mp m]
section
variable {k l x : Int} {d y : List UInt8} {m q : Option Nat} {v : AV}
theorem vnPs_0 : (vnPs k l d m)[0]? = some (.int .i64 k) := nr rfl
theorem vnPs_1 : (vnPs k l d m)[1]? = some (.int .i64 l) := nr rfl
theorem vnPs_2 : (vnPs k l d m)[2]? = some (.str d) := nr rfl
theorem vnPs_3 : (vnPs k l d m)[3]? = some (.mp m) := nr rfl
theorem vnSet_0 : (vnPs k l d m).set 0 (.int .i64 x) = vnPs x l d m := nr rfl
theorem vnSet_1 : (vnPs k l d m).set 1 (.int .i64 x) = vnPs k x d m := nr rfl
theorem vnSet_2 : (vnPs k l d m).set 2 (.str y) = vnPs k l y m := nr rfl
theorem vnSet_3 : (vnPs k l d m).set 3 (.mp q) = vnPs k l d q := nr rfl
theorem vnAt_0 : partIs Try.prog 179 (vnPs k l d m) 0 v = fits Try.prog 3 v := by rw [partIs_of (o := 0) (T := 3) (by kernel_rfl)]; simp [vnPs, AV.sizes, AV.size]
theorem vnAt_1 : partIs Try.prog 179 (vnPs k l d m) 1 v = fits Try.prog 3 v := by rw [partIs_of (o := 1) (T := 3) (by kernel_rfl)]; simp [vnPs, AV.sizes, AV.size]
theorem vnAt_2 : partIs Try.prog 179 (vnPs k l d m) 2 v = fits Try.prog 9 v := by rw [partIs_of (o := 2) (T := 9) (by kernel_rfl)]; simp [vnPs, AV.sizes, AV.size]
theorem vnAt_3 : partIs Try.prog 179 (vnPs k l d m) 3 v = fits Try.prog 177 v := by rw [partIs_of (o := 3) (T := 177) (by kernel_rfl)]; simp [vnPs, AV.sizes, AV.size]
theorem zero_vn : zeroA Try.prog 12 179 = .agg (vnPs 0 0 [] none) := by kernel_rfl
theorem zt_vn : ZeroOf Try.prog 179 (.agg (vnPs 0 0 [] none)) = True := eq_true ⟨_, _, rfl, rfl, rfl, rfl, rfl⟩
theorem built_vn : Built Try.prog 179 = True := eq_true (by unfold Built; rw [Try.underlying179]; decide +kernel)
theorem fits177 : fits Try.prog 177 (.mp m) = True := by rw [fits_leaf (P := Try.prog) (t := 177) (by kernel_rfl) (by kernel_rfl)]; simp [AV.isAgg, AV.size]
theorem fits172 : fits Try.prog 172 (.mp m) = True := by rw [fits_leaf (P := Try.prog) (t := 172) (by kernel_rfl) (by kernel_rfl)]; simp [AV.isAgg, AV.size]
theorem voAt {x y : Option Nat} : partIs Try.prog 174 [.mp x] 0 (.mp y) = True := by rw [partIs_of (o := 0) (T := 172) (by kernel_rfl)]; simp [AV.sizes, AV.size, fits172]
theorem zero174 : zeroA Try.prog 12 174 = .agg [.mp none] := by kernel_rfl
theorem zt174 : ZeroOf Try.prog 174 (.agg [.mp none]) = True := eq_true ⟨_, _, rfl, rfl, rfl, rfl, rfl⟩
theorem built174 : Built Try.prog 174 = True := eq_true (by unfold Built; rw [Try.underlying174]; decide +kernel)
end
end Go.Aff.L10

namespace Go.Aff.L10
open Go.Proofs Go.Aff Go.Aff.L01 Classical
set_option maxRecDepth 20000
attribute [local go_sem] push_app app_app length_app cellAt_app cellAt_app0 set_app set_app0 objs_app objs_app0 List.cons_append List.nil_append List.length_cons List.length_nil List.getElem?_cons_zero List.getElem?_cons_succ List.set_cons_zero List.set_cons_succ List.length_map
attribute [-go_sem] cellAt_new
attribute [-simp] List.length_flatMap
attribute [local go_sem] Try.underlying9 Try.underlying50
attribute [local go_sem] fits3 fits9 fits31
attribute [local go_sem ↓] blockQ_exit2
attribute [local go_sem] vnPs_0 vnPs_1 vnPs_2 vnPs_3 vnSet_0 vnSet_1 vnSet_2 vnSet_3 vnAt_0 vnAt_1 vnAt_2 vnAt_3 zero_vn zt_vn built_vn fits177 fits172 voAt zero174 zt174 built174 Try.underlying172 Try.underlying174 Try.underlying176 Try.underlying177 Try.underlying179
attribute [local go_sem] ndPs_0 ndAt_0 ndPs_1 ndAt_1 ndPs_2 ndAt_2 ndPs_3 ndAt_3 ndPs_4 ndAt_4 sizes_nd shapes_nd fits_nd zero_nd zt_nd Try.underlying102 Try.underlying52 Try.underlying43 fits43
open Go.Aff.L31
structure VN where
  num : Int
  kind : Int
  data : List UInt8
  ch : List (Nat × List UInt8 × Int)
  ck : Nat
  kn : Nat
  mn : Option Nat
def grOf (Ns : List VN) : List Nd := Ns.map fun n => ⟨n.num, decide (n.kind = 1), n.ch.map (·.2.2)⟩
structure VF (σ0 s : AST) (j mi : Nat) (Ns : List VN) (lk : Int → Nat) (F : List (Nat × AObj)) : Prop where
  x : Ext σ0 s
  o : s.objs[j]? = some (.cells (.agg [.mp (some mi)]))
  m : ∃ (E : List (Nat × Int × Nat)) (ck : Nat), s.objs[mi]? = some (.map (E.map entI) ck) ∧ E.map (·.2) = Ns.map (fun n => (n.num, n.kn)) ∧ (∀ e ∈ E, e.1 < ck) ∧ (E.map (·.1)).Nodup
  n : ∀ n ∈ Ns, s.objs[n.kn]? = some (.cells (.agg (vnPs n.kind (lk n.num : Nat) n.data n.mn)))
  d : ∀ n ∈ Ns, ∀ k, n.mn = some k → s.objs[k]? = some (.map (n.ch.map entS) n.ck)
  c : ∀ n ∈ Ns, (∀ e ∈ n.ch, e.1 < n.ck) ∧ (n.ch.map (·.1)).Nodup ∧ (n.kind = 1 → ∃ k, n.mn = some k) ∧ (n.kind ≠ 1 → n.ch = [])
  nn : (Ns.map (·.num)).Nodup
  kd : (Ns.map (·.kn)).Nodup
  kj : ∀ n ∈ Ns, n.kn ≠ j ∧ n.kn ≠ mi ∧ ∀ p ∈ Ns, p.mn ≠ some n.kn
  ge : ∀ n ∈ Ns, σ0.objs.length ≤ n.kn
  f : ∀ y ∈ F, s.objs[y.1]? = some y.2 ∧ y.1 ≠ j ∧ y.1 ≠ mi ∧ ∀ n ∈ Ns, n.kn ≠ y.1 ∧ n.mn ≠ some y.1
theorem mem_inj {α β : Type} {f : α → β} {l : List α} (h : (l.map f).Nodup) {a b : α} (ha : a ∈ l) (hb : b ∈ l) (e : f a = f b) : a = b := by
  obtain ⟨i, hi⟩ := List.mem_iff_getElem?.1 ha
  obtain ⟨j, hj⟩ := List.mem_iff_getElem?.1 hb
  have h1 : (l.map f)[i]? = some (f a) := by rw [List.getElem?_map, hi]; rfl
  have h2 : (l.map f)[j]? = some (f a) := by rw [List.getElem?_map, hj, e]; rfl
  have := (List.getElem?_inj (List.getElem?_eq_some_iff.1 h1).1 h).1 (h1.trans h2.symm)
  subst this
  rw [hi] at hj; cases hj; rfl
theorem objs_setSV {s : AST} {k : Nat} {o : AObj} (h : k < s.objs.length) : (s.set k o).objs[k]? = some o := by simp only [AST.set]; rw [List.getElem?_set_self h]
theorem objs_setNV {s : AST} {j k : Nat} {o : AObj} (h : j ≠ k) : (s.set j o).objs[k]? = s.objs[k]? := by simp only [AST.set]; rw [List.getElem?_set_ne h]
theorem ext_knownV {a b : AST} {k : Nat} {o : AObj} (h : Ext a b) (ho : a.objs[k]? = some o) : b.objs[k]? = some o := by
  obtain ⟨O, T, rfl⟩ := h
  rw [List.getElem?_append_left (List.getElem?_eq_some_iff.1 ho).1]; exact ho
section
variable {σ0 s s2 : AST} {j mi : Nat} {Ns : List VN} {lk : Int → Nat} {F : List (Nat × AObj)} {K : AV → AST → Prop}
theorem VF.ext (h : VF σ0 s j mi Ns lk F) (e : Ext s s2) : VF σ0 s2 j mi Ns lk F := by
  obtain ⟨E, ck, m1, m2, m3, m4⟩ := h.m
  exact ⟨h.x.trans e, ext_knownV e h.o, ⟨E, ck, ext_knownV e m1, m2, m3, m4⟩, fun n hn => ext_knownV e (h.n n hn), fun n hn k hk => ext_knownV e (h.d n hn k hk), h.c, h.nn, h.kd, h.kj, h.ge, fun y hy => ⟨ext_knownV e (h.f y hy).1, (h.f y hy).2⟩⟩
theorem VF.link (h : VF σ0 s j mi Ns lk F) {p : VN} (hp : p ∈ Ns) : VF σ0 (s.set p.kn (.cells (.agg (vnPs p.kind ((lk p.num + 1 : Nat) : Int) p.data p.mn)))) j mi Ns (more lk [p.num]) F := by
  obtain ⟨E, ck, m1, m2, m3, m4⟩ := h.m
  obtain ⟨k1, k2, k3⟩ := h.kj p hp
  have hl : p.kn < s.objs.length := (List.getElem?_eq_some_iff.1 (h.n p hp)).1
  refine ⟨h.x.set (h.ge p hp), by rw [objs_setNV k1]; exact h.o, ⟨E, ck, by rw [objs_setNV k2]; exact m1, m2, m3, m4⟩, fun n hn => ?_, fun n hn k hk => ?_, h.c, h.nn, h.kd, h.kj, h.ge, fun y hy => ⟨by rw [objs_setNV ((h.f y hy).2.2.2 p hp).1]; exact (h.f y hy).1, (h.f y hy).2⟩⟩
  · by_cases e : n.num = p.num
    · have := mem_inj h.nn hn hp e
      subst this
      rw [objs_setSV hl]; simp [more]
    · have hk : p.kn ≠ n.kn := fun e' => e (by rw [mem_inj h.kd hp hn e'])
      rw [objs_setNV hk, h.n n hn]
      have : (p.num == n.num) = false := by simp; exact fun e' => e e'.symm
      simp [more, List.count_singleton, this]
  · have hk' : p.kn ≠ k := fun e => k3 n hn (by rw [hk, e])
    rw [objs_setNV hk']; exact h.d n hn k hk
theorem VF.more (h : VF σ0 s j mi Ns lk F) {i : Nat} {o : AObj} (ho : s.objs[i]? = some o) (hi : i ≠ j ∧ i ≠ mi ∧ ∀ n ∈ Ns, n.kn ≠ i ∧ n.mn ≠ some i) : VF σ0 s j mi Ns lk ((i, o) :: F) :=
  ⟨h.x, h.o, h.m, h.n, h.d, h.c, h.nn, h.kd, h.kj, h.ge, fun y hy => by
    rcases List.mem_cons.1 hy with rfl | hy
    · exact ⟨ho, hi⟩
    · exact h.f y hy⟩
theorem VF.less {y : Nat × AObj} (h : VF σ0 s j mi Ns lk (y :: F)) : VF σ0 s j mi Ns lk F := ⟨h.x, h.o, h.m, h.n, h.d, h.c, h.nn, h.kd, h.kj, h.ge, fun z hz => h.f z (List.mem_cons_of_mem _ hz)⟩
theorem VF.setF {i : Nat} {o o' : AObj} (h : VF σ0 s j mi Ns lk ((i, o) :: F)) (hi : σ0.objs.length ≤ i) (hF : ∀ y ∈ F, y.1 ≠ i) : VF σ0 (s.set i o') j mi Ns lk ((i, o') :: F) := by
  obtain ⟨E, ck, m1, m2, m3, m4⟩ := h.m
  obtain ⟨f1, f2, f3, f4⟩ := h.f _ (List.mem_cons_self ..)
  dsimp only at f1 f2 f3 f4
  have hl : i < s.objs.length := (List.getElem?_eq_some_iff.1 f1).1
  refine ⟨h.x.set hi, by rw [objs_setNV f2]; exact h.o, ⟨E, ck, by rw [objs_setNV f3]; exact m1, m2, m3, m4⟩, fun n hn => by rw [objs_setNV (Ne.symm (f4 n hn).1)]; exact h.n n hn, fun n hn k hk => ?_, h.c, h.nn, h.kd, h.kj, h.ge, fun y hy => ?_⟩
  · have : i ≠ k := fun e => (f4 n hn).2 (by rw [hk, e])
    rw [objs_setNV this]; exact h.d n hn k hk
  · rcases List.mem_cons.1 hy with rfl | hy
    · exact ⟨objs_setSV hl, f2, f3, f4⟩
    · have := h.f y (List.mem_cons_of_mem _ hy)
      exact ⟨by rw [objs_setNV (Ne.symm (hF y hy))]; exact this.1, this.2⟩
theorem VF.lts (h : VF σ0 s j mi Ns lk F) : j < s.objs.length ∧ mi < s.objs.length ∧ (∀ n ∈ Ns, n.kn < s.objs.length ∧ ∀ k, n.mn = some k → k < s.objs.length) ∧ ∀ y ∈ F, y.1 < s.objs.length := by
  obtain ⟨E, ck, m1, _⟩ := h.m
  have g : ∀ {i : Nat} {o : AObj}, s.objs[i]? = some o → i < s.objs.length := fun h => (List.getElem?_eq_some_iff.1 h).1
  exact ⟨g h.o, g m1, fun n hn => ⟨g (h.n n hn), fun k hk => g (h.d n hn k hk)⟩, fun y hy => g (h.f y hy).1⟩
theorem VF.box (h : VF σ0 s j mi Ns lk F) (o : AObj) : VF σ0 (s.app [o]) j mi Ns lk ((s.objs.length, o) :: F) := by
  obtain ⟨l1, l2, l3, _⟩ := h.lts
  refine (h.ext (Ext.app _ _)).more objs_app0 ⟨by omega, by omega, fun n hn => ⟨?_, fun e => ?_⟩⟩
  · have := (l3 n hn).1; omega
  · have := (l3 n hn).2 _ e; omega
theorem lookV (h : VF σ0 s j mi Ns lk F) {a : Int} {KV : AV → Prop} (h1 : ∀ n ∈ Ns, n.num = a → KV (.ptr (some (n.kn, [])))) (h2 : (∀ n ∈ Ns, n.num ≠ a) → KV (.ptr none)) :
    lookupW Try.prog s 172 (.mp (some mi)) (.int .i64 a) false KV := by
  obtain ⟨E, ck, m1, m2, m3, m4⟩ := h.m
  refine ⟨3, 176, Try.underlying172, keyI, ?_⟩
  simp only [m1]
  refine ⟨_, findI, ?_⟩
  cases hf : E.findIdx? (fun e => e.2.1 == a) with
  | none =>
    have hz : zeroA Try.prog 12 176 = .ptr none := by kernel_rfl
    refine ⟨by rw [hz]; exact ⟨_, _, rfl, rfl, rfl, rfl, rfl⟩, ?_⟩
    rw [hz]
    refine h2 fun n hn e => ?_
    have hm : (n.num, n.kn) ∈ E.map (·.2) := by rw [m2]; exact List.mem_map.2 ⟨n, hn, rfl⟩
    obtain ⟨x, hx, he⟩ := List.mem_map.1 hm
    have := List.findIdx?_eq_none_iff.1 hf x hx
    simp [he, e] at this
  | some i =>
    intro e he
    rw [List.getElem?_map] at he
    obtain ⟨x, hx, rfl⟩ := Option.map_eq_some_iff.1 he
    obtain ⟨hi, hp, _⟩ := List.findIdx?_eq_some_iff_getElem.1 hf
    have hxi : E[i] = x := by have := List.getElem?_eq_getElem hi; rw [hx] at this; exact (Option.some.inj this).symm
    rw [hxi] at hp
    have hm : x.2 ∈ Ns.map (fun n => (n.num, n.kn)) := by rw [← m2]; exact List.mem_map.2 ⟨x, List.mem_of_getElem? hx, rfl⟩
    obtain ⟨n, hn, en⟩ := List.mem_map.1 hm
    have := h1 n hn (by rw [show n.num = x.2.1 by rw [← en]]; simpa using hp)
    rw [show n.kn = x.2.2 by rw [← en]] at this
    exact this
theorem fnd_of (h : (Ns.map (·.num)).Nodup) {n : VN} (hn : n ∈ Ns) : fnd (grOf Ns) n.num = some ⟨n.num, decide (n.kind = 1), n.ch.map (·.2.2)⟩ := by
  unfold fnd grOf
  rw [List.find?_map]
  cases hf : Ns.find? ((fun x : Nd => decide (x.num = n.num)) ∘ fun n => ⟨n.num, decide (n.kind = 1), n.ch.map (·.2.2)⟩) with
  | none =>
    have := List.find?_eq_none.1 hf n hn
    simp at this
  | some p =>
    have hp := List.mem_of_find?_eq_some hf
    have he := List.find?_some hf
    simp at he
    rw [mem_inj h hp hn he]; rfl
theorem fnd_no {a : Int} (h : ∀ n ∈ Ns, n.num ≠ a) : fnd (grOf Ns) a = none := by
  unfold fnd grOf
  rw [List.find?_eq_none]
  intro x hx
  obtain ⟨n, hn, rfl⟩ := List.mem_map.1 hx
  simpa using h n hn
end
section
variable {σ0 : AST} {j mi : Nat} {Ns : List VN}
theorem kids_of (h : (Ns.map (·.num)).Nodup) {n : VN} (hn : n ∈ Ns) : kids (grOf Ns) n.num = n.ch.map (·.2.2) := by unfold kids; rw [fnd_of h hn]
theorem isD_of (h : (Ns.map (·.num)).Nodup) {n : VN} (hn : n ∈ Ns) : L31.isD (grOf Ns) n.num = decide (n.kind = 1) := by unfold L31.isD; rw [fnd_of h hn]
theorem kids_le (h : (Ns.map (·.num)).Nodup) (hch : ∀ n ∈ Ns, n.ch.length ≤ 80) (a : Int) : (kids (grOf Ns) a).length ≤ 80 := by
  by_cases e : ∃ n ∈ Ns, n.num = a
  · obtain ⟨n, hn, rfl⟩ := e
    rw [kids_of h hn, List.length_map]; exact hch n hn
  · have : fnd (grOf Ns) a = none := fnd_no fun n hn e' => e ⟨n, hn, e'⟩
    unfold kids; rw [this]; simp
def kc (D : List (Nat × List UInt8 × Int)) : List Int := D.map (·.2.2)
theorem reach_c (hch : ∀ n ∈ Ns, n.ch.length ≤ 80) : ∀ (r : Nat), r ≤ 6 → ∀ {s : AST} {lk : Int → Nat} {F : List (Nat × AObj)}, VF σ0 s j mi Ns lk F → (∀ x, lk x + 81 ^ r ≤ 1000000000000000) → ∀ {p : VN}, p ∈ Ns → p.kind = 1 → ∀ {K : AV → AST → Prop},
    (∀ s', Cond (grOf Ns) r p.num lk → VF σ0 s' j mi Ns (more lk (U (grOf Ns) r p.num)) F → K (.bool true) s') → (∀ s', ¬ Cond (grOf Ns) r p.num lk → Ext σ0 s' → K (.bool false) s') →
    TCalls Try.prog 104 [.ptr (some (j, [])), .int .i64 p.num, .int .i64 (6 - (r : Int))] s K := by
  intro r
  induction r with
  | zero =>
    intro hr s lk F hv hb p hp hk K hT hF
    obtain ⟨c1, c2, c3, c4⟩ := hv.c p hp
    obtain ⟨k, hmn⟩ := c3 hk
    have hj := cellAt_known hv.o
    have hn := hv.n p hp
    rw [hmn] at hn
    have cn := cellAt_known hn
    have hm := hv.d p hp k hmn
    have hkids := kids_of hv.nn hp
    refine tcalls_walk Try.f104 _ [.tmp 6] Try.func104 rfl rfl rfl mixed (Nat.le_of_ble_eq_true rfl) rfl fun hlen => ?_
    repeat' (first | (simp -dsimp only [↓reduceIte, go_sem, hj]) | (refine arr_intro fun _ => ?_) | (refine later_intro ⟨keeps_nil, ?_⟩) | (refine later_intro ⟨keeps_refl, ?_⟩) | (with_reducible refine keeps_go ?_ ?_; focus (first | (simp [keeps_cons, keeps_none, objs_app, objs_app0]; done) | (simp only [keeps_cons, keeps_none, objs_app0, objs_app, and_true]; first | rfl | exact ⟨rfl, rfl⟩ | exact ⟨rfl, rfl, rfl⟩))) | (with_reducible refine (And.intro (a := keeps _ _ _) ?_ ?_); focus (first | (simp [keeps_cons, keeps_none, objs_app, objs_app0]; done) | (simp only [keeps_cons, keeps_none, objs_app0, objs_app, and_true]; first | rfl | exact ⟨rfl, rfl⟩ | exact ⟨rfl, rfl, rfl⟩))) | (refine both_ways ?_ ?_) | (rw [wrap_i64 (by omega) (by omega)]) | (refine guardV_split (fun h => ?_) (fun h => ?_) <;> (try rw [h]) <;> (try simp at h) <;> (try (exfalso; omega))) | ((refine lookV hv (fun n hn e => ?_) (fun hno => absurd rfl (hno p hp)))))
    obtain rfl : p = n := (mem_inj hv.nn hn hp e).symm
    repeat' (first | (simp -dsimp only [↓reduceIte, go_sem, hj, cn]) | (refine arr_intro fun _ => ?_) | (refine later_intro ⟨keeps_nil, ?_⟩) | (refine later_intro ⟨keeps_refl, ?_⟩) | (with_reducible refine keeps_go ?_ ?_; focus (first | (simp [keeps_cons, keeps_none, objs_app, objs_app0]; done) | (simp only [keeps_cons, keeps_none, objs_app0, objs_app, and_true]; first | rfl | exact ⟨rfl, rfl⟩ | exact ⟨rfl, rfl, rfl⟩))) | (with_reducible refine (And.intro (a := keeps _ _ _) ?_ ?_); focus (first | (simp [keeps_cons, keeps_none, objs_app, objs_app0]; done) | (simp only [keeps_cons, keeps_none, objs_app0, objs_app, and_true]; first | rfl | exact ⟨rfl, rfl⟩ | exact ⟨rfl, rfl, rfl⟩))) | (refine both_ways ?_ ?_) | (rw [wrap_i64 (by omega) (by omega)]) | (refine guardV_split (fun h => ?_) (fun h => ?_) <;> (try rw [h]) <;> (try simp at h) <;> (try (exfalso; omega))))
    refine ⟨⟨9, 3, Try.underlying177⟩, ?_⟩
    simp only [hm]
    intro l b
    repeat' (first | (simp -dsimp only [↓reduceIte, go_sem]) | (refine arr_intro fun _ => ?_) | (refine later_intro ⟨keeps_nil, ?_⟩) | (refine later_intro ⟨keeps_refl, ?_⟩) | (with_reducible refine keeps_go ?_ ?_; focus (first | (simp [keeps_cons, keeps_none, objs_app, objs_app0]; done) | (simp only [keeps_cons, keeps_none, objs_app0, objs_app, and_true]; first | rfl | exact ⟨rfl, rfl⟩ | exact ⟨rfl, rfl, rfl⟩))) | (with_reducible refine (And.intro (a := keeps _ _ _) ?_ ?_); focus (first | (simp [keeps_cons, keeps_none, objs_app, objs_app0]; done) | (simp only [keeps_cons, keeps_none, objs_app0, objs_app, and_true]; first | rfl | exact ⟨rfl, rfl⟩ | exact ⟨rfl, rfl, rfl⟩))) | (refine both_ways ?_ ?_) | (rw [wrap_i64 (by omega) (by omega)]) | (refine guardV_split (fun h => ?_) (fun h => ?_) <;> (try rw [h]) <;> (try simp at h) <;> (try (exfalso; omega))))
    have hbx := hv.box (iterO l b k p.ck #[] p.ck)
    have hl4 := hv.lts
    have hle : σ0.objs.length ≤ s.objs.length := by obtain ⟨O, T, rfl⟩ := hv.x; simp
    generalize hk0 : s.objs.length = k0 at *
    generalize s.app [iterO l b k p.ck #[] p.ck] = s0 at hbx ⊢
    refine awp_rounds (fun (i : Nat) τ s' => VF σ0 s' j mi Ns lk ((k0, iterO l b k p.ck #[] p.ck) :: F) ∧ τ 0 = .ptr (some (j, [])) ∧ τ 2 = .int .i64 (6 - ((0 : Nat) : Int)) ∧ τ 19 = .ptr (some (k0, []))) (fun i => 1 - i) 0 ?_ ?_
    · refine ⟨hbx, ?_, ?_, ?_⟩ <;> (try simp only [go_sem]) <;> (try rfl)
    · rintro i τ s' ⟨hV, t0, t2, t19⟩
      have hit := (hV.f _ (List.mem_cons_self ..)).1
      dsimp only at hit
      have hm' := hV.d p hp k hmn
      repeat' (first | (simp -dsimp only [↓reduceIte, go_sem, t0, t2, t19]) | (refine arr_intro fun _ => ?_) | (refine later_intro ⟨keeps_nil, ?_⟩) | (refine later_intro ⟨keeps_refl, ?_⟩) | (with_reducible refine keeps_go ?_ ?_; focus (first | (simp [keeps_cons, keeps_none, objs_app, objs_app0]; done) | (simp only [keeps_cons, keeps_none, objs_app0, objs_app, and_true]; first | rfl | exact ⟨rfl, rfl⟩ | exact ⟨rfl, rfl, rfl⟩))) | (with_reducible refine (And.intro (a := keeps _ _ _) ?_ ?_); focus (first | (simp [keeps_cons, keeps_none, objs_app, objs_app0]; done) | (simp only [keeps_cons, keeps_none, objs_app0, objs_app, and_true]; first | rfl | exact ⟨rfl, rfl⟩ | exact ⟨rfl, rfl, rfl⟩))) | (refine both_ways ?_ ?_) | (rw [wrap_i64 (by omega) (by omega)]) | (refine guardV_split (fun h => ?_) (fun h => ?_) <;> (try rw [h]) <;> (try simp at h) <;> (try (exfalso; omega))))
      refine ⟨rfl, k0, l, b, k, p.ck, _, p.ck, _, _, rfl, hit, hm', ?_, Nat.le_refl _, fun e he hne => ?_, fun hall => ?_⟩
      · intro e he
        obtain ⟨x, hx, rfl⟩ := List.mem_map.1 he
        exact c1 x hx
      · obtain ⟨e, he0, rfl⟩ := List.mem_map.1 he
        have hfail : ¬ Cond (grOf Ns) 0 p.num lk := by
          rw [cond_zero, hkids]
          intro hc
          have := List.map_eq_nil_iff.1 hc
          rw [this] at he0; cases he0
        have hV2 := hV.setF (o' := iterO l b k p.ck (#[].push (entS e).1) p.ck) hle (fun y hy => by have := hl4.2.2.2 y hy; omega)
        generalize hs2 : s'.set k0 (iterO l b k p.ck (#[].push (entS e).1) p.ck) = s2 at hV2
        have oit := (hV2.f _ (List.mem_cons_self ..)).1
        dsimp only at oit
        have om := hV2.d p hp k hmn
        have hj2 := cellAt_known hV2.o
        repeat' (first | (simp -dsimp only [↓reduceIte, go_sem, t0, t2, t19, hs2]) | (refine arr_intro fun _ => ?_) | (refine later_intro ⟨keeps_nil, ?_⟩) | (refine later_intro ⟨keeps_refl, ?_⟩) | (with_reducible refine keeps_go ?_ ?_; focus (first | (simp [keeps_cons, keeps_none, objs_app, objs_app0]; done) | (simp only [keeps_cons, keeps_none, objs_app0, objs_app, and_true]; first | rfl | exact ⟨rfl, rfl⟩ | exact ⟨rfl, rfl, rfl⟩))) | (with_reducible refine (And.intro (a := keeps _ _ _) ?_ ?_); focus (first | (simp [keeps_cons, keeps_none, objs_app, objs_app0]; done) | (simp only [keeps_cons, keeps_none, objs_app0, objs_app, and_true]; first | rfl | exact ⟨rfl, rfl⟩ | exact ⟨rfl, rfl, rfl⟩))) | (refine both_ways ?_ ?_) | (rw [wrap_i64 (by omega) (by omega)]) | (refine guardV_split (fun h => ?_) (fun h => ?_) <;> (try rw [h]) <;> (try simp at h) <;> (try (exfalso; omega))))
        refine ⟨k0, l, b, k, p.ck, #[], _, entS e, p.ck, rfl, oit, om, he, ?_⟩
        have k2 : (entS e).2.2 = .int .i64 e.2.2 := rfl
        repeat' (first | (simp -dsimp only [↓reduceIte, go_sem, hj2, t0, t2, t19, k2]) | (refine arr_intro fun _ => ?_) | (refine later_intro ⟨keeps_nil, ?_⟩) | (refine later_intro ⟨keeps_refl, ?_⟩) | (with_reducible refine keeps_go ?_ ?_; focus (first | (simp [keeps_cons, keeps_none, objs_app, objs_app0]; done) | (simp only [keeps_cons, keeps_none, objs_app0, objs_app, and_true]; first | rfl | exact ⟨rfl, rfl⟩ | exact ⟨rfl, rfl, rfl⟩))) | (with_reducible refine (And.intro (a := keeps _ _ _) ?_ ?_); focus (first | (simp [keeps_cons, keeps_none, objs_app, objs_app0]; done) | (simp only [keeps_cons, keeps_none, objs_app0, objs_app, and_true]; first | rfl | exact ⟨rfl, rfl⟩ | exact ⟨rfl, rfl, rfl⟩))) | (refine both_ways ?_ ?_) | (rw [wrap_i64 (by omega) (by omega)]) | (refine guardV_split (fun h => ?_) (fun h => ?_) <;> (try rw [h]) <;> (try simp at h) <;> (try (exfalso; omega))) | ((refine lookV hV2 (fun n hn2 en => ?_) (fun hno => ?_))))
        all_goals exact hF _ hfail hV2.x
      · repeat' (first | (simp -dsimp only [↓reduceIte, go_sem, t0, t2, t19]) | (refine arr_intro fun _ => ?_) | (refine later_intro ⟨keeps_nil, ?_⟩) | (refine later_intro ⟨keeps_refl, ?_⟩) | (with_reducible refine keeps_go ?_ ?_; focus (first | (simp [keeps_cons, keeps_none, objs_app, objs_app0]; done) | (simp only [keeps_cons, keeps_none, objs_app0, objs_app, and_true]; first | rfl | exact ⟨rfl, rfl⟩ | exact ⟨rfl, rfl, rfl⟩))) | (with_reducible refine (And.intro (a := keeps _ _ _) ?_ ?_); focus (first | (simp [keeps_cons, keeps_none, objs_app, objs_app0]; done) | (simp only [keeps_cons, keeps_none, objs_app0, objs_app, and_true]; first | rfl | exact ⟨rfl, rfl⟩ | exact ⟨rfl, rfl, rfl⟩))) | (refine both_ways ?_ ?_) | (rw [wrap_i64 (by omega) (by omega)]) | (refine guardV_split (fun h => ?_) (fun h => ?_) <;> (try rw [h]) <;> (try simp at h) <;> (try (exfalso; omega))))
        have hz : p.ch = [] := by
          cases hc : p.ch with
          | nil => rfl
          | cons e C =>
            have := hall (entS e) (by rw [hc]; exact List.mem_map_of_mem (List.mem_cons_self ..))
            simp at this
        refine hT _ (cond_zero.2 (by rw [hkids, hz]; rfl)) ?_
        have e1 : more lk (U (grOf Ns) 0 p.num) = lk := by rw [U, more_nil]
        rw [e1]
        exact hV.less
  | succ r ih =>
    intro hr s lk F hv hb p hp hk K hT hF
    obtain ⟨c1, c2, c3, c4⟩ := hv.c p hp
    obtain ⟨k, hmn⟩ := c3 hk
    have hj := cellAt_known hv.o
    have hn := hv.n p hp
    rw [hmn] at hn
    have cn := cellAt_known hn
    have hm := hv.d p hp k hmn
    have hkids := kids_of hv.nn hp
    have hul := u_len (G := grOf Ns) (kids_le hv.nn hch) r
    have hvl := v_len (G := grOf Ns) hul
    have hpw : 81 ^ (r + 1) = 81 ^ r * 81 := Nat.pow_succ ..
    have hp1 : 0 < 81 ^ r := Nat.pow_pos (by decide)
    have hc80 := hch p hp
    refine tcalls_walk Try.f104 _ [.tmp 6] Try.func104 rfl rfl rfl mixed (Nat.le_of_ble_eq_true rfl) rfl fun hlen => ?_
    repeat' (first | (simp -dsimp only [↓reduceIte, go_sem, hj]) | (refine arr_intro fun _ => ?_) | (refine later_intro ⟨keeps_nil, ?_⟩) | (refine later_intro ⟨keeps_refl, ?_⟩) | (with_reducible refine keeps_go ?_ ?_; focus (first | (simp [keeps_cons, keeps_none, objs_app, objs_app0]; done) | (simp only [keeps_cons, keeps_none, objs_app0, objs_app, and_true]; first | rfl | exact ⟨rfl, rfl⟩ | exact ⟨rfl, rfl, rfl⟩))) | (with_reducible refine (And.intro (a := keeps _ _ _) ?_ ?_); focus (first | (simp [keeps_cons, keeps_none, objs_app, objs_app0]; done) | (simp only [keeps_cons, keeps_none, objs_app0, objs_app, and_true]; first | rfl | exact ⟨rfl, rfl⟩ | exact ⟨rfl, rfl, rfl⟩))) | (refine both_ways ?_ ?_) | (rw [wrap_i64 (by omega) (by omega)]) | (refine guardV_split (fun h => ?_) (fun h => ?_) <;> (try rw [h]) <;> (try simp at h) <;> (try (exfalso; omega))) | ((refine lookV hv (fun n hn e => ?_) (fun hno => absurd rfl (hno p hp)))))
    obtain rfl : p = n := (mem_inj hv.nn hn hp e).symm
    repeat' (first | (simp -dsimp only [↓reduceIte, go_sem, hj, cn]) | (refine arr_intro fun _ => ?_) | (refine later_intro ⟨keeps_nil, ?_⟩) | (refine later_intro ⟨keeps_refl, ?_⟩) | (with_reducible refine keeps_go ?_ ?_; focus (first | (simp [keeps_cons, keeps_none, objs_app, objs_app0]; done) | (simp only [keeps_cons, keeps_none, objs_app0, objs_app, and_true]; first | rfl | exact ⟨rfl, rfl⟩ | exact ⟨rfl, rfl, rfl⟩))) | (with_reducible refine (And.intro (a := keeps _ _ _) ?_ ?_); focus (first | (simp [keeps_cons, keeps_none, objs_app, objs_app0]; done) | (simp only [keeps_cons, keeps_none, objs_app0, objs_app, and_true]; first | rfl | exact ⟨rfl, rfl⟩ | exact ⟨rfl, rfl, rfl⟩))) | (refine both_ways ?_ ?_) | (rw [wrap_i64 (by omega) (by omega)]) | (refine guardV_split (fun h => ?_) (fun h => ?_) <;> (try rw [h]) <;> (try simp at h) <;> (try (exfalso; omega))))
    refine ⟨⟨9, 3, Try.underlying177⟩, ?_⟩
    simp only [hm]
    intro l b
    repeat' (first | (simp -dsimp only [↓reduceIte, go_sem]) | (refine arr_intro fun _ => ?_) | (refine later_intro ⟨keeps_nil, ?_⟩) | (refine later_intro ⟨keeps_refl, ?_⟩) | (with_reducible refine keeps_go ?_ ?_; focus (first | (simp [keeps_cons, keeps_none, objs_app, objs_app0]; done) | (simp only [keeps_cons, keeps_none, objs_app0, objs_app, and_true]; first | rfl | exact ⟨rfl, rfl⟩ | exact ⟨rfl, rfl, rfl⟩))) | (with_reducible refine (And.intro (a := keeps _ _ _) ?_ ?_); focus (first | (simp [keeps_cons, keeps_none, objs_app, objs_app0]; done) | (simp only [keeps_cons, keeps_none, objs_app0, objs_app, and_true]; first | rfl | exact ⟨rfl, rfl⟩ | exact ⟨rfl, rfl, rfl⟩))) | (refine both_ways ?_ ?_) | (rw [wrap_i64 (by omega) (by omega)]) | (refine guardV_split (fun h => ?_) (fun h => ?_) <;> (try rw [h]) <;> (try simp at h) <;> (try (exfalso; omega))))
    have hbx := hv.box (iterO l b k p.ck #[] p.ck)
    have hl4 := hv.lts
    have hle : σ0.objs.length ≤ s.objs.length := by obtain ⟨O, T, rfl⟩ := hv.x; simp
    generalize hk0 : s.objs.length = k0 at *
    generalize s.app [iterO l b k p.ck #[] p.ck] = s0 at hbx ⊢
    refine awp_rounds (fun (i : Nat) τ s' => ∃ (D : List (Nat × List UInt8 × Int)) (last : Nat), D.length = i ∧ Seen p.ch D ∧ p.ck ≤ last ∧ VF σ0 s' j mi Ns (more lk (V (grOf Ns) r (kc D))) ((k0, iterO l b k p.ck (D.map (·.1)).toArray last) :: F) ∧ L31.Part (grOf Ns) r (kc D) lk ∧ τ 0 = .ptr (some (j, [])) ∧ τ 2 = .int .i64 (6 - ((r + 1 : Nat) : Int)) ∧ τ 19 = .ptr (some (k0, []))) (fun i => p.ch.length - i) 0 ?_ ?_
    · refine ⟨[], p.ck, rfl, Seen.nil, Nat.le_refl _, ?_, part_nil, ?_, ?_, ?_⟩ <;> (try simp only [go_sem]) <;> (try rfl)
      have : more lk (V (grOf Ns) r (kc [])) = lk := by simp [kc, V, more_nil]
      rw [this]; exact hbx
    · rintro i τ s' ⟨D, last, hDl, hD, hla, hV, hP, t0, t2, t19⟩
      have hit := (hV.f _ (List.mem_cons_self ..)).1
      dsimp only at hit
      have hm' := hV.d p hp k hmn
      repeat' (first | (simp -dsimp only [↓reduceIte, go_sem, t0, t2, t19]) | (refine arr_intro fun _ => ?_) | (refine later_intro ⟨keeps_nil, ?_⟩) | (refine later_intro ⟨keeps_refl, ?_⟩) | (with_reducible refine keeps_go ?_ ?_; focus (first | (simp [keeps_cons, keeps_none, objs_app, objs_app0]; done) | (simp only [keeps_cons, keeps_none, objs_app0, objs_app, and_true]; first | rfl | exact ⟨rfl, rfl⟩ | exact ⟨rfl, rfl, rfl⟩))) | (with_reducible refine (And.intro (a := keeps _ _ _) ?_ ?_); focus (first | (simp [keeps_cons, keeps_none, objs_app, objs_app0]; done) | (simp only [keeps_cons, keeps_none, objs_app0, objs_app, and_true]; first | rfl | exact ⟨rfl, rfl⟩ | exact ⟨rfl, rfl, rfl⟩))) | (refine both_ways ?_ ?_) | (rw [wrap_i64 (by omega) (by omega)]) | (refine guardV_split (fun h => ?_) (fun h => ?_) <;> (try rw [h]) <;> (try simp at h) <;> (try (exfalso; omega))))
      refine ⟨rfl, k0, l, b, k, p.ck, _, last, _, _, rfl, hit, hm', ?_, hla, fun e he hne => ?_, fun hall => ?_⟩
      · intro e he
        obtain ⟨x, hx, rfl⟩ := List.mem_map.1 he
        exact c1 x hx
      · obtain ⟨e, he0, rfl⟩ := List.mem_map.1 he
        have hne' : ¬ e.1 ∈ D.map (·.1) := by simpa [entS, entG] using hne
        have hD' := hD.add he0 hne'
        have hl2 := hD'.len c2
        have hV2 := hV.setF (o' := iterO l b k p.ck ((D.map (·.1)).toArray.push (entS e).1) p.ck) hle (fun y hy => by have := hl4.2.2.2 y hy; omega)
        generalize hs2 : s'.set k0 (iterO l b k p.ck ((D.map (·.1)).toArray.push (entS e).1) p.ck) = s2 at hV2
        have oit := (hV2.f _ (List.mem_cons_self ..)).1
        dsimp only at oit
        have om := hV2.d p hp k hmn
        have hj2 := cellAt_known hV2.o
        repeat' (first | (simp -dsimp only [↓reduceIte, go_sem, t0, t2, t19, hs2]) | (refine arr_intro fun _ => ?_) | (refine later_intro ⟨keeps_nil, ?_⟩) | (refine later_intro ⟨keeps_refl, ?_⟩) | (with_reducible refine keeps_go ?_ ?_; focus (first | (simp [keeps_cons, keeps_none, objs_app, objs_app0]; done) | (simp only [keeps_cons, keeps_none, objs_app0, objs_app, and_true]; first | rfl | exact ⟨rfl, rfl⟩ | exact ⟨rfl, rfl, rfl⟩))) | (with_reducible refine (And.intro (a := keeps _ _ _) ?_ ?_); focus (first | (simp [keeps_cons, keeps_none, objs_app, objs_app0]; done) | (simp only [keeps_cons, keeps_none, objs_app0, objs_app, and_true]; first | rfl | exact ⟨rfl, rfl⟩ | exact ⟨rfl, rfl, rfl⟩))) | (refine both_ways ?_ ?_) | (rw [wrap_i64 (by omega) (by omega)]) | (refine guardV_split (fun h => ?_) (fun h => ?_) <;> (try rw [h]) <;> (try simp at h) <;> (try (exfalso; omega))))
        refine ⟨k0, l, b, k, p.ck, (D.map (·.1)).toArray, _, entS e, p.ck, rfl, oit, om, he, ?_⟩
        have k2 : (entS e).2.2 = .int .i64 e.2.2 := rfl
        have hfail : ¬ L31.Part (grOf Ns) r (kc D ++ [e.2.2]) lk → ¬ Cond (grOf Ns) (r + 1) p.num lk := by
          intro hnp hc
          obtain ⟨R, hR⟩ := hD'.rest c2
          have hc' : L31.Part (grOf Ns) r (kids (grOf Ns) p.num) lk := hc
          rw [hkids] at hc'
          have hp2 := (part_perm (hR.map (·.2.2))).2 hc'
          rw [List.map_append, List.map_append] at hp2
          exact hnp (part_left hp2)
        repeat' (first | (simp -dsimp only [↓reduceIte, go_sem, hj2, t0, t2, t19, k2]) | (refine arr_intro fun _ => ?_) | (refine later_intro ⟨keeps_nil, ?_⟩) | (refine later_intro ⟨keeps_refl, ?_⟩) | (with_reducible refine keeps_go ?_ ?_; focus (first | (simp [keeps_cons, keeps_none, objs_app, objs_app0]; done) | (simp only [keeps_cons, keeps_none, objs_app0, objs_app, and_true]; first | rfl | exact ⟨rfl, rfl⟩ | exact ⟨rfl, rfl, rfl⟩))) | (with_reducible refine (And.intro (a := keeps _ _ _) ?_ ?_); focus (first | (simp [keeps_cons, keeps_none, objs_app, objs_app0]; done) | (simp only [keeps_cons, keeps_none, objs_app0, objs_app, and_true]; first | rfl | exact ⟨rfl, rfl⟩ | exact ⟨rfl, rfl, rfl⟩))) | (refine both_ways ?_ ?_) | (rw [wrap_i64 (by omega) (by omega)]) | (refine guardV_split (fun h => ?_) (fun h => ?_) <;> (try rw [h]) <;> (try simp at h) <;> (try (exfalso; omega))) | ((refine lookV hV2 (fun n hn2 en => ?_) (fun hno => ?_))))
        · have hn3 := hV2.n n hn2
          have cn3 := cellAt_known hn3
          have hfn := fnd_of hv.nn hn2
          have hml := more_le (l := lk) (xs := V (grOf Ns) r (kc D)) n.num
          have hvl2 := hvl (kc D)
          have hkl : (kc D).length = D.length := List.length_map ..
          rw [List.length_append] at hl2
          simp only [List.length_singleton] at hl2
          have hDm : (kc D).length * 81 ^ r ≤ 79 * 81 ^ r := Nat.mul_le_mul_right _ (by omega)
          have hbn := hb n.num
          have hwr : IntKind.i64.wrap (((more lk (V (grOf Ns) r (kc D)) n.num : Nat) : Int) + 1) = ((more lk (V (grOf Ns) r (kc D)) n.num + 1 : Nat) : Int) := by
            rw [wrap64] <;> omega
          have hV3 := hV2.link hn2
          repeat' (first | (simp -dsimp only [↓reduceIte, go_sem, t0, t2, t19, k2, cn3, hwr, hn3]) | (refine arr_intro fun _ => ?_) | (refine later_intro ⟨keeps_nil, ?_⟩) | (refine later_intro ⟨keeps_refl, ?_⟩) | (with_reducible refine keeps_go ?_ ?_; focus (first | (simp [keeps_cons, keeps_none, objs_app, objs_app0]; done) | (simp only [keeps_cons, keeps_none, objs_app0, objs_app, and_true]; first | rfl | exact ⟨rfl, rfl⟩ | exact ⟨rfl, rfl, rfl⟩))) | (with_reducible refine (And.intro (a := keeps _ _ _) ?_ ?_); focus (first | (simp [keeps_cons, keeps_none, objs_app, objs_app0]; done) | (simp only [keeps_cons, keeps_none, objs_app0, objs_app, and_true]; first | rfl | exact ⟨rfl, rfl⟩ | exact ⟨rfl, rfl, rfl⟩))) | (refine both_ways ?_ ?_) | (rw [wrap_i64 (by omega) (by omega)]) | (refine guardV_split (fun h => ?_) (fun h => ?_) <;> (try rw [h]) <;> (try simp at h) <;> (try (exfalso; omega))))
          have hn4 := hV3.n n hn2
          have hwn : ((more (more lk (V (grOf Ns) r (kc D))) [n.num] n.num : Nat) : Int) = ((more lk (V (grOf Ns) r (kc D)) n.num + 1 : Nat) : Int) := by simp [more]
          rw [hwn] at hn4
          have cn4 := cellAt_known hn4
          generalize s2.set n.kn _ = s3 at hV3 hn4 cn4 ⊢
          have hita : (D.map (·.1)).toArray.push (entS e).1 = ((D ++ [e]).map (·.1)).toArray := by simp [entS, entG]
          rw [hita] at hV3
          have hkc : kc (D ++ [e]) = kc D ++ [n.num] := by rw [en]; simp [kc]
          rw [← en] at hfail
          have hne1 : n.num ≠ 1 := by rw [en]; assumption
          have hsm : (fnd (grOf Ns) n.num).isSome := by rw [hfn]; rfl
          have hmm : more lk (V (grOf Ns) r (kc D) ++ [n.num]) n.num = more lk (V (grOf Ns) r (kc D)) n.num + 1 := by simp [more]; omega
          repeat' (first | (simp -dsimp only [↓reduceIte, go_sem, t0, t2, t19, k2, cn4]) | (refine arr_intro fun _ => ?_) | (refine later_intro ⟨keeps_nil, ?_⟩) | (refine later_intro ⟨keeps_refl, ?_⟩) | (with_reducible refine keeps_go ?_ ?_; focus (first | (simp [keeps_cons, keeps_none, objs_app, objs_app0]; done) | (simp only [keeps_cons, keeps_none, objs_app0, objs_app, and_true]; first | rfl | exact ⟨rfl, rfl⟩ | exact ⟨rfl, rfl, rfl⟩))) | (with_reducible refine (And.intro (a := keeps _ _ _) ?_ ?_); focus (first | (simp [keeps_cons, keeps_none, objs_app, objs_app0]; done) | (simp only [keeps_cons, keeps_none, objs_app0, objs_app, and_true]; first | rfl | exact ⟨rfl, rfl⟩ | exact ⟨rfl, rfl, rfl⟩))) | (refine both_ways ?_ ?_) | (rw [wrap_i64 (by omega) (by omega)]) | (refine guardV_split (fun h => ?_) (fun h => ?_) <;> (try rw [h]) <;> (try simp at h) <;> (try (exfalso; omega))))
          · have hkd : n.kind = 1 := by assumption
            have hll : ((more lk (V (grOf Ns) r (kc D)) n.num : Nat) : Int) + 1 ≤ 1 := by assumption
            have hd6 : (6 - ((r + 1 : Nat) : Int) + 1) = 6 - (r : Int) := by omega
            have hpd := part_dir hP hne1 hsm (by rw [hmm]; omega)
            rw [hd6, ← en]
            rw [more_app] at hV3
            refine ih (by omega) hV3 (fun x => ?_) hn2 hkd (fun s4 hC hV4 => ?_) (fun s4 hC hx4 => ?_)
            · have := more_le (l := lk) (xs := V (grOf Ns) r (kc D) ++ [n.num]) x
              have hbx2 := hb x
              rw [List.length_append, List.length_singleton] at this
              omega
            · repeat' (first | (simp -dsimp only [↓reduceIte, go_sem, t0, t2, t19]) | (refine arr_intro fun _ => ?_) | (refine later_intro ⟨keeps_nil, ?_⟩) | (refine later_intro ⟨keeps_refl, ?_⟩) | (with_reducible refine keeps_go ?_ ?_; focus (first | (simp [keeps_cons, keeps_none, objs_app, objs_app0]; done) | (simp only [keeps_cons, keeps_none, objs_app0, objs_app, and_true]; first | rfl | exact ⟨rfl, rfl⟩ | exact ⟨rfl, rfl, rfl⟩))) | (with_reducible refine (And.intro (a := keeps _ _ _) ?_ ?_); focus (first | (simp [keeps_cons, keeps_none, objs_app, objs_app0]; done) | (simp only [keeps_cons, keeps_none, objs_app0, objs_app, and_true]; first | rfl | exact ⟨rfl, rfl⟩ | exact ⟨rfl, rfl, rfl⟩))) | (refine both_ways ?_ ?_) | (rw [wrap_i64 (by omega) (by omega)]) | (refine guardV_split (fun h => ?_) (fun h => ?_) <;> (try rw [h]) <;> (try simp at h) <;> (try (exfalso; omega))))
              refine later_intro ⟨i + 1, by omega, D ++ [e], p.ck, by simp [hDl], hD', Nat.le_refl _, ?_, by rw [hkc]; exact hpd.2 hC, ?_, ?_, ?_⟩ <;> (try simp only [go_sem, t0, t2, t19]) <;> (try rfl)
              rw [more_app] at hV4
              rw [hkc, v_app, v_one]
              have e5 : V (grOf Ns) r (kc D) ++ [n.num] ++ U (grOf Ns) r n.num = V (grOf Ns) r (kc D) ++ n.num :: U (grOf Ns) r n.num := by simp
              rw [e5] at hV4
              exact hV4
            · repeat' (first | (simp -dsimp only [↓reduceIte, go_sem, t0, t2, t19]) | (refine arr_intro fun _ => ?_) | (refine later_intro ⟨keeps_nil, ?_⟩) | (refine later_intro ⟨keeps_refl, ?_⟩) | (with_reducible refine keeps_go ?_ ?_; focus (first | (simp [keeps_cons, keeps_none, objs_app, objs_app0]; done) | (simp only [keeps_cons, keeps_none, objs_app0, objs_app, and_true]; first | rfl | exact ⟨rfl, rfl⟩ | exact ⟨rfl, rfl, rfl⟩))) | (with_reducible refine (And.intro (a := keeps _ _ _) ?_ ?_); focus (first | (simp [keeps_cons, keeps_none, objs_app, objs_app0]; done) | (simp only [keeps_cons, keeps_none, objs_app0, objs_app, and_true]; first | rfl | exact ⟨rfl, rfl⟩ | exact ⟨rfl, rfl, rfl⟩))) | (refine both_ways ?_ ?_) | (rw [wrap_i64 (by omega) (by omega)]) | (refine guardV_split (fun h => ?_) (fun h => ?_) <;> (try rw [h]) <;> (try simp at h) <;> (try (exfalso; omega))))
              exact hF _ (hfail fun hc => hC (hpd.1 hc)) hx4
          · have hkd : n.kind = 1 := by assumption
            have hll : 1 < ((more lk (V (grOf Ns) r (kc D)) n.num : Nat) : Int) + 1 := by assumption
            refine hF _ (hfail fun hc => ?_) hV3.x
            have h9 := (part_head hc).2.2.1 (by rw [isD_of hv.nn hn2]; simp [hkd])
            simp only [more] at hll
            omega
          · have hkd : ¬ n.kind = 1 := by assumption
            have hkz : kids (grOf Ns) n.num = [] := by rw [kids_of hv.nn hn2, (hv.c n hn2).2.2.2 hkd]; rfl
            have hpf := part_file hP hne1 hsm (by rw [isD_of hv.nn hn2]; simp [hkd]) hkz
            refine later_intro ⟨i + 1, by omega, D ++ [e], p.ck, by simp [hDl], hD', Nat.le_refl _, ?_, by rw [hkc]; exact hpf, ?_, ?_, ?_⟩ <;> (try simp only [go_sem, t0, t2, t19]) <;> (try rfl)
            rw [hkc, v_app, v_one, u_file hkz]
            rw [more_app] at hV3
            exact hV3
        · exact hF _ (hfail fun hc => (part_head hc).1 (by assumption)) hV2.x
        · skip
          refine hF _ (hfail fun hc => ?_) hV2.x
          have := (part_head hc).2.1
          rw [fnd_no hno] at this; cases this
      · repeat' (first | (simp -dsimp only [↓reduceIte, go_sem, t0, t2, t19]) | (refine arr_intro fun _ => ?_) | (refine later_intro ⟨keeps_nil, ?_⟩) | (refine later_intro ⟨keeps_refl, ?_⟩) | (with_reducible refine keeps_go ?_ ?_; focus (first | (simp [keeps_cons, keeps_none, objs_app, objs_app0]; done) | (simp only [keeps_cons, keeps_none, objs_app0, objs_app, and_true]; first | rfl | exact ⟨rfl, rfl⟩ | exact ⟨rfl, rfl, rfl⟩))) | (with_reducible refine (And.intro (a := keeps _ _ _) ?_ ?_); focus (first | (simp [keeps_cons, keeps_none, objs_app, objs_app0]; done) | (simp only [keeps_cons, keeps_none, objs_app0, objs_app, and_true]; first | rfl | exact ⟨rfl, rfl⟩ | exact ⟨rfl, rfl, rfl⟩))) | (refine both_ways ?_ ?_) | (rw [wrap_i64 (by omega) (by omega)]) | (refine guardV_split (fun h => ?_) (fun h => ?_) <;> (try rw [h]) <;> (try simp at h) <;> (try (exfalso; omega))))
        have hperm := hD.all c2 fun e he => by
          have := hall (entS e) (List.mem_map_of_mem he)
          simpa [entS, entG] using this
        have hpk : (kc D).Perm (kids (grOf Ns) p.num) := by rw [hkids]; exact hperm.map (·.2.2)
        refine hT _ (cond_part.2 ((part_perm hpk).1 hP)) ?_
        have e1 : more lk (U (grOf Ns) (r + 1) p.num) = more lk (V (grOf Ns) r (kc D)) := (more_perm (v_perm hpk)).symm
        rw [e1]
        exact hV.less
end
end Go.Aff.L10

