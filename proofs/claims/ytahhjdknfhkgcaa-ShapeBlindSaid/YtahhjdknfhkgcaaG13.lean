import Derived.Test.YtahhjdknfhkgcaaG12

set_option linter.unusedSimpArgs false
set_option linter.unusedVariables false

namespace Go.Aff.L10
open Go.Proofs Go.Aff Go.Aff.L01 Classical
set_option maxRecDepth 20000
attribute [local go_sem] push_app app_app length_app cellAt_app cellAt_app0 set_app set_app0 objs_app objs_app0 List.cons_append List.nil_append List.length_cons List.length_nil List.getElem?_cons_zero List.getElem?_cons_succ List.set_cons_zero List.set_cons_succ List.length_map
attribute [-go_sem] cellAt_new
attribute [-simp] List.length_flatMap
attribute [local go_sem] Try.underlying50
attribute [local go_sem] fits3 fits31
attribute [local go_sem ↓] blockQ_exit2
attribute [local go_sem] L21.zt46 L21.zero46 L21.agg_leaf L21.known_leaf L21.fits46 L21.p46_3 Try.underlying84 Try.underlying22 sizes_shp zt_shp
open Go.Aff.L31
def topL (bs : List Int) (n : Int) : Int := bs.foldl (fun n b => max n (b + 1)) n
theorem topL_app {a b : List Int} {n : Int} : topL (a ++ b) n = topL b (topL a n) := List.foldl_append
theorem topL_ge : ∀ (bs : List Int) (n : Int), n ≤ topL bs n
  | [], n => Int.le_refl _
  | b :: bs, n => by have := topL_ge bs (max n (b + 1)); unfold topL at this ⊢; rw [List.foldl_cons]; omega
theorem topL_le : ∀ {bs : List Int} {n c : Int}, n ≤ c → (∀ b ∈ bs, b + 1 ≤ c) → topL bs n ≤ c
  | [], n, c, h, _ => h
  | b :: bs, n, c, h, hb => by
    have h1 := hb b (List.mem_cons_self ..)
    exact topL_le (bs := bs) (n := max n (b + 1)) (by omega) fun x hx => hb x (List.mem_cons_of_mem _ hx)
def blks (l : List TL) : List Int := l.flatMap fun y => y.x.blocks
theorem fits22 {v : AV} : fits Try.prog 22 v = (v.isAgg = false ∧ v.size = 1) := fits_leaf (by kernel_rfl) (by kernel_rfl)
theorem zt22 : ZeroOf Try.prog 22 (.slice .full []) = True := eq_true ⟨_, _, rfl, rfl, rfl, rfl, rfl⟩
theorem E146 : ElemT Try.prog 146 22 1 24 := ⟨rfl, by kernel_rfl, by kernel_rfl, ⟨_, of_eq_true zt22⟩, by decide⟩
def tabV (p : Tk × List TL) : AV := .slice p.1 (p.2.map L21.leafV)
attribute [local go_sem] Try.underlying146 fits22 zt22
section
variable {σ : AST} {K : AV → AST → Prop}
theorem top_c {ts : List (Tk × List TL)} {tk : Tk} (hb : ∀ p ∈ ts, ∀ y ∈ p.2, ∀ b ∈ y.x.blocks, 0 ≤ b ∧ b ≤ 1099511627776)
    (hK : K (.int .i64 (topL (ts.flatMap fun p => blks p.2) 0)) σ) : TCalls Try.prog 39 [.slice tk (ts.map tabV)] σ K := by
  refine TCalls.drop ?_
  have hmax : (maxL : Nat) ≤ 9223372036854775807 := by decide
  refine tcalls_walk Try.f39 _ [.tmp 2] Try.func39 rfl rfl rfl mixed (Nat.le_of_ble_eq_true rfl) rfl fun hlen => ?_
  repeat' (first | (simp -dsimp only [↓reduceIte, go_sem]) | (refine arr_intro fun _ => ?_) | (refine later_intro ⟨keeps_nil, ?_⟩) | (refine later_intro ⟨keeps_refl, ?_⟩) | (with_reducible refine keeps_go ?_ ?_; focus (first | (simp [keeps_cons, keeps_none, objs_app, objs_app0]; done) | (simp only [keeps_cons, keeps_none, objs_app0, objs_app, and_true]; first | rfl | exact ⟨rfl, rfl⟩ | exact ⟨rfl, rfl, rfl⟩))) | (with_reducible refine (And.intro (a := keeps _ _ _) ?_ ?_); focus (first | (simp [keeps_cons, keeps_none, objs_app, objs_app0]; done) | (simp only [keeps_cons, keeps_none, objs_app0, objs_app, and_true]; first | rfl | exact ⟨rfl, rfl⟩ | exact ⟨rfl, rfl, rfl⟩))) | (refine both_ways ?_ ?_) | (rw [wrap_i64 (by omega) (by omega)]) | (refine guardV_split (fun h => ?_) (fun h => ?_) <;> (try rw [h]) <;> (try simp at h) <;> (try (exfalso; omega))))
  have hll : ts.length ≤ 9223372036854775807 := by omega
  refine awp_rounds (fun (i : Nat) τ s => i ≤ ts.length ∧ Ext σ s ∧ τ 3 = .int .i64 (topL ((ts.take i).flatMap fun p => blks p.2) 0) ∧ τ 10 = .slice tk (ts.map tabV) ∧ τ 11 = .int .i64 ts.length ∧ τ 12 = .int .i64 i) (fun i => ts.length - i) 0 ?_ ?_
  · refine ⟨by omega, Ext.refl _, ?_, ?_, ?_, ?_⟩ <;> (try simp only [go_sem]) <;> (try rfl)
  · rintro i τ s ⟨hi, hx, t3, t10, t11, t12⟩
    by_cases hib : i < ts.length
    · have hlt1 : (i : Int) < ts.length := by omega
      have hpi : ts[i]? = some ts[i] := List.getElem?_eq_getElem hib
      have hbp := hb _ (List.getElem_mem hib)
      generalize ts[i] = p at hpi hbp
      have w1 : IntKind.i64.wrap ((i : Int) + 1) = (i : Int) + 1 := wrap_i64 (by omega) (by omega)
      generalize hn0 : topL ((ts.take i).flatMap fun p => blks p.2) 0 = n0 at t3
      have e1 : topL ((ts.take (i + 1)).flatMap fun p => blks p.2) 0 = topL (blks p.2) n0 := by rw [List.take_add_one, hpi, List.flatMap_append, topL_app, hn0]; simp
      have hm0 : n0 ≤ 1099511627777 := by
        rw [← hn0]
        refine topL_le (by omega) fun b hb' => ?_
        obtain ⟨p', hp', hb'⟩ := List.mem_flatMap.1 hb'
        obtain ⟨y, hy, hb'⟩ := List.mem_flatMap.1 hb'
        have := hb p' (List.mem_of_mem_take hp') y hy b hb'
        omega
      have hg0 : 0 ≤ n0 := by rw [← hn0]; exact topL_ge _ _
      repeat' (first | (simp -dsimp only [↓reduceIte, go_sem, t3, t10, t11, t12, hlt1, tabV]) | (refine arr_intro fun _ => ?_) | (refine later_intro ⟨keeps_nil, ?_⟩) | (refine later_intro ⟨keeps_refl, ?_⟩) | (with_reducible refine keeps_go ?_ ?_; focus (first | (simp [keeps_cons, keeps_none, objs_app, objs_app0]; done) | (simp only [keeps_cons, keeps_none, objs_app0, objs_app, and_true]; first | rfl | exact ⟨rfl, rfl⟩ | exact ⟨rfl, rfl, rfl⟩))) | (with_reducible refine (And.intro (a := keeps _ _ _) ?_ ?_); focus (first | (simp [keeps_cons, keeps_none, objs_app, objs_app0]; done) | (simp only [keeps_cons, keeps_none, objs_app0, objs_app, and_true]; first | rfl | exact ⟨rfl, rfl⟩ | exact ⟨rfl, rfl, rfl⟩))) | (refine both_ways ?_ ?_) | (rw [wrap_i64 (by omega) (by omega)]) | (refine guardV_split (fun h => ?_) (fun h => ?_) <;> (try rw [h]) <;> (try simp at h) <;> (try (exfalso; omega))) | (refine nth_get hpi ?_))
      have hpl : p.2.length ≤ 9223372036854775807 := by omega
      refine awp_rounds (fun (q : Nat) τ s => q ≤ p.2.length ∧ Ext σ s ∧ τ 3 = .int .i64 (topL (blks (p.2.take q)) n0) ∧ τ 10 = .slice tk (ts.map tabV) ∧ τ 11 = .int .i64 ts.length ∧ τ 12 = .int .i64 i ∧ τ 16 = .slice p.1 (p.2.map L21.leafV) ∧ τ 17 = .int .i64 p.2.length ∧ τ 18 = .int .i64 q) (fun q => p.2.length - q) 0 ?_ ?_
      · refine ⟨by omega, hx, ?_, ?_, ?_, ?_, ?_, ?_, ?_⟩ <;> (try simp only [go_sem, t3, t10, t11, t12]) <;> (try rfl)
      · clear t3 t10 t11 t12 hx
        rintro q τ s ⟨hq, hx, t3, t10, t11, t12, t16, t17, t18⟩
        by_cases hqb : q < p.2.length
        · have hlt2 : (q : Int) < p.2.length := by omega
          have hyq : p.2[q]? = some p.2[q] := List.getElem?_eq_getElem hqb
          have hby := hbp _ (List.getElem_mem hqb)
          generalize p.2[q] = y at hyq hby
          have w2 : IntKind.i64.wrap ((q : Int) + 1) = (q : Int) + 1 := wrap_i64 (by omega) (by omega)
          generalize hn1 : topL (blks (p.2.take q)) n0 = n1 at t3
          have e2 : topL (blks (p.2.take (q + 1))) n0 = topL y.x.blocks n1 := by
            unfold blks at hn1 ⊢
            rw [List.take_add_one, hyq, List.flatMap_append, topL_app, hn1]; simp
          have hm1 : n1 ≤ 1099511627777 := by
            rw [← hn1]
            refine topL_le hm0 fun b hb' => ?_
            obtain ⟨y, hy, hb'⟩ := List.mem_flatMap.1 hb'
            have := hbp y (List.mem_of_mem_take hy) b hb'
            omega
          have hg1 : 0 ≤ n1 := by rw [← hn1]; exact Int.le_trans hg0 (topL_ge _ _)
          repeat' (first | (simp -dsimp only [↓reduceIte, go_sem, t3, t10, t11, t12, t16, t17, t18, hlt2, L21.leafV]) | (refine arr_intro fun _ => ?_) | (refine later_intro ⟨keeps_nil, ?_⟩) | (refine later_intro ⟨keeps_refl, ?_⟩) | (with_reducible refine keeps_go ?_ ?_; focus (first | (simp [keeps_cons, keeps_none, objs_app, objs_app0]; done) | (simp only [keeps_cons, keeps_none, objs_app0, objs_app, and_true]; first | rfl | exact ⟨rfl, rfl⟩ | exact ⟨rfl, rfl, rfl⟩))) | (with_reducible refine (And.intro (a := keeps _ _ _) ?_ ?_); focus (first | (simp [keeps_cons, keeps_none, objs_app, objs_app0]; done) | (simp only [keeps_cons, keeps_none, objs_app0, objs_app, and_true]; first | rfl | exact ⟨rfl, rfl⟩ | exact ⟨rfl, rfl, rfl⟩))) | (refine both_ways ?_ ?_) | (rw [wrap_i64 (by omega) (by omega)]) | (refine guardV_split (fun h => ?_) (fun h => ?_) <;> (try rw [h]) <;> (try simp at h) <;> (try (exfalso; omega))) | (refine nth_get hyq ?_))
          have hyl : y.x.blocks.length ≤ 9223372036854775807 := by omega
          have hx2 : Ext σ (s.app [.cells (L21.leafV y)]) := hx.trans (Ext.app _ _)
          have k0 : (s.app [.cells (L21.leafV y)]).objs[s.objs.length]? = some (.cells (L21.leafV y)) := objs_app0
          change awp _ _ _ _ (s.app [.cells (L21.leafV y)])
          generalize s.objs.length = j at *
          generalize s.app [.cells (L21.leafV y)] = s2 at hx2 k0 ⊢
          refine awp_rounds (fun (k : Nat) τ s' => k ≤ y.x.blocks.length ∧ s' = s2 ∧ τ 3 = .int .i64 (topL (y.x.blocks.take k) n1) ∧ τ 10 = .slice tk (ts.map tabV) ∧ τ 11 = .int .i64 ts.length ∧ τ 12 = .int .i64 i ∧ τ 16 = .slice p.1 (p.2.map L21.leafV) ∧ τ 17 = .int .i64 p.2.length ∧ τ 18 = .int .i64 q ∧ τ 23 = .slice y.t1 (y.x.blocks.map (AV.int .i64)) ∧ τ 24 = .int .i64 y.x.blocks.length ∧ τ 25 = .int .i64 k) (fun k => y.x.blocks.length - k) 0 ?_ ?_
          · refine ⟨by omega, rfl, ?_, ?_, ?_, ?_, ?_, ?_, ?_, ?_, ?_, ?_⟩ <;> (try simp only [go_sem, t3, t10, t11, t12, t16, t17, t18]) <;> (try rfl)
          · clear t3 t10 t11 t12 t16 t17 t18
            rintro k τ s3 ⟨hk, rfl, t3, t10, t11, t12, t16, t17, t18, t23, t24, t25⟩
            by_cases hkb : k < y.x.blocks.length
            · have hlt3 : (k : Int) < y.x.blocks.length := by omega
              have hbk : y.x.blocks[k]? = some y.x.blocks[k] := List.getElem?_eq_getElem hkb
              have hbb := hby _ (List.getElem_mem hkb)
              generalize y.x.blocks[k] = b at hbk hbb
              have w3 : IntKind.i64.wrap ((k : Int) + 1) = (k : Int) + 1 := wrap_i64 (by omega) (by omega)
              have w4 : IntKind.i64.wrap (b + 1) = b + 1 := wrap_i64 (by omega) (by omega)
              have e3 : topL (y.x.blocks.take (k + 1)) n1 = max (topL (y.x.blocks.take k) n1) (b + 1) := by
                rw [List.take_add_one, hbk, topL_app]; rfl
              repeat' (first | (simp -dsimp only [↓reduceIte, go_sem, t3, t10, t11, t12, t16, t17, t18, t23, t24, t25, hlt3, w3, w4]) | (refine arr_intro fun _ => ?_) | (refine later_intro ⟨keeps_nil, ?_⟩) | (refine later_intro ⟨keeps_refl, ?_⟩) | (with_reducible refine keeps_go ?_ ?_; focus (first | (simp [keeps_cons, keeps_none, objs_app, objs_app0]; done) | (simp only [keeps_cons, keeps_none, objs_app0, objs_app, and_true]; first | rfl | exact ⟨rfl, rfl⟩ | exact ⟨rfl, rfl, rfl⟩))) | (with_reducible refine (And.intro (a := keeps _ _ _) ?_ ?_); focus (first | (simp [keeps_cons, keeps_none, objs_app, objs_app0]; done) | (simp only [keeps_cons, keeps_none, objs_app0, objs_app, and_true]; first | rfl | exact ⟨rfl, rfl⟩ | exact ⟨rfl, rfl, rfl⟩))) | (refine both_ways ?_ ?_) | (rw [wrap_i64 (by omega) (by omega)]) | (refine guardV_split (fun h => ?_) (fun h => ?_) <;> (try rw [h]) <;> (try simp at h) <;> (try (exfalso; omega))) | (refine nth_get hbk ?_))
              ((first | refine later_intro ⟨k + 1, by omega, ?_⟩ | refine ⟨k + 1, by omega, ?_⟩); (repeat' with_reducible apply And.intro); all_goals (first | omega | (simp only [go_sem, e3, t3, t10, t11, t12, t16, t17, t18, t23, t24, t25, w3]; done) | rfl | assumption | (simp only [go_sem, e3, t3, t10, t11, t12, t16, t17, t18, t23, t24, t25, w3]; rfl) | skip))
            · obtain rfl : k = y.x.blocks.length := by omega
              have hlt3 : ¬ ((y.x.blocks.length : Nat) : Int) < y.x.blocks.length := by omega
              rw [List.take_length] at t3
              repeat' (first | (simp -dsimp only [↓reduceIte, go_sem, t3, t10, t11, t12, t16, t17, t18, t23, t24, t25, hlt3, w2]) | (refine arr_intro fun _ => ?_) | (refine later_intro ⟨keeps_nil, ?_⟩) | (refine later_intro ⟨keeps_refl, ?_⟩) | (with_reducible refine keeps_go ?_ ?_; focus (first | (simp [keeps_cons, keeps_none, objs_app, objs_app0]; done) | (simp only [keeps_cons, keeps_none, objs_app0, objs_app, and_true]; first | rfl | exact ⟨rfl, rfl⟩ | exact ⟨rfl, rfl, rfl⟩))) | (with_reducible refine (And.intro (a := keeps _ _ _) ?_ ?_); focus (first | (simp [keeps_cons, keeps_none, objs_app, objs_app0]; done) | (simp only [keeps_cons, keeps_none, objs_app0, objs_app, and_true]; first | rfl | exact ⟨rfl, rfl⟩ | exact ⟨rfl, rfl, rfl⟩))) | (refine both_ways ?_ ?_) | (rw [wrap_i64 (by omega) (by omega)]) | (refine guardV_split (fun h => ?_) (fun h => ?_) <;> (try rw [h]) <;> (try simp at h) <;> (try (exfalso; omega))))
              ((first | refine later_intro ⟨q + 1, by omega, ?_⟩ | refine ⟨q + 1, by omega, ?_⟩); (repeat' with_reducible apply And.intro); all_goals (first | omega | (simp only [go_sem, e2, t3, t10, t11, t12, t16, t17, t18, w2]; done) | rfl | assumption | (simp only [go_sem, e2, t3, t10, t11, t12, t16, t17, t18, w2]; rfl) | skip))
              all_goals exact hx2
        · obtain rfl : q = p.2.length := by omega
          have hlt2 : ¬ ((p.2.length : Nat) : Int) < p.2.length := by omega
          rw [List.take_length] at t3
          repeat' (first | (simp -dsimp only [↓reduceIte, go_sem, t3, t10, t11, t12, t16, t17, t18, hlt2, w1]) | (refine arr_intro fun _ => ?_) | (refine later_intro ⟨keeps_nil, ?_⟩) | (refine later_intro ⟨keeps_refl, ?_⟩) | (with_reducible refine keeps_go ?_ ?_; focus (first | (simp [keeps_cons, keeps_none, objs_app, objs_app0]; done) | (simp only [keeps_cons, keeps_none, objs_app0, objs_app, and_true]; first | rfl | exact ⟨rfl, rfl⟩ | exact ⟨rfl, rfl, rfl⟩))) | (with_reducible refine (And.intro (a := keeps _ _ _) ?_ ?_); focus (first | (simp [keeps_cons, keeps_none, objs_app, objs_app0]; done) | (simp only [keeps_cons, keeps_none, objs_app0, objs_app, and_true]; first | rfl | exact ⟨rfl, rfl⟩ | exact ⟨rfl, rfl, rfl⟩))) | (refine both_ways ?_ ?_) | (rw [wrap_i64 (by omega) (by omega)]) | (refine guardV_split (fun h => ?_) (fun h => ?_) <;> (try rw [h]) <;> (try simp at h) <;> (try (exfalso; omega))))
          ((first | refine later_intro ⟨i + 1, by omega, ?_⟩ | refine ⟨i + 1, by omega, ?_⟩); (repeat' with_reducible apply And.intro); all_goals (first | omega | (simp only [go_sem, e1, t3, t10, t11, t12, w1]; done) | rfl | assumption | (simp only [go_sem, e1, t3, t10, t11, t12, w1]; rfl) | skip))
          all_goals exact hx
    · obtain rfl : i = ts.length := by omega
      have hlt1 : ¬ ((ts.length : Nat) : Int) < ts.length := by omega
      rw [List.take_length] at t3
      repeat' (first | (simp -dsimp only [↓reduceIte, go_sem, t3, t10, t11, t12, hlt1]) | (refine arr_intro fun _ => ?_) | (refine later_intro ⟨keeps_nil, ?_⟩) | (refine later_intro ⟨keeps_refl, ?_⟩) | (with_reducible refine keeps_go ?_ ?_; focus (first | (simp [keeps_cons, keeps_none, objs_app, objs_app0]; done) | (simp only [keeps_cons, keeps_none, objs_app0, objs_app, and_true]; first | rfl | exact ⟨rfl, rfl⟩ | exact ⟨rfl, rfl, rfl⟩))) | (with_reducible refine (And.intro (a := keeps _ _ _) ?_ ?_); focus (first | (simp [keeps_cons, keeps_none, objs_app, objs_app0]; done) | (simp only [keeps_cons, keeps_none, objs_app0, objs_app, and_true]; first | rfl | exact ⟨rfl, rfl⟩ | exact ⟨rfl, rfl, rfl⟩))) | (refine both_ways ?_ ?_) | (rw [wrap_i64 (by omega) (by omega)]) | (refine guardV_split (fun h => ?_) (fun h => ?_) <;> (try rw [h]) <;> (try simp at h) <;> (try (exfalso; omega))))
      exact ⟨hx, rfl, hK⟩
end
theorem zt58' : ZeroOf Try.prog 58 (.agg (shpPs shp0)) := of_eq_true zt_shp
theorem E29s : ElemT Try.prog 29 58 2 16 := ⟨rfl, by kernel_rfl, by kernel_rfl, ⟨_, zt58'⟩, by decide⟩
theorem size_shps {l : List Shp} : ∀ v ∈ l.map shpV, v.size = 2 := by
  intro v hv; obtain ⟨x, _, rfl⟩ := List.mem_map.1 hv; simp only [AV.size, sizes_shp]
theorem append_shp {a : List Shp} {y : Shp} {tk tk2 : Tk} {σ : AST} {K : AV → AST → Prop} (hca : canApp σ tk a.length 2) (hl : a.length ≤ 9000) (hK : K (.slice (growT σ tk) ((a ++ [y]).map shpV)) (growS σ tk (a.length + 1) 2)) :
    appendW Try.prog ⟨[29, 29]⟩ (.slice tk (a.map shpV)) (.slice tk2 [shpV y]) σ K := by
  refine append_slice E29s rfl (by rw [List.length_map]; exact hca) (by intro v hv; simp at hv; subst hv; simp only [AV.size, sizes_shp]) size_shps (by simp; omega) (by simp [maxL]; omega) ?_
  simpa using hK
def putS (me k n : Int) : Shp := shpOf 4 [.num me, .num k, .txt n, .sgn]
def subS (me n root : Int) : Shp := shpOf 1 [.num me, .num n, .num 1, .num me, .txt (nlen root), .sgn, .sgn]
section
variable (me : Int) (old : List Leaf) (t : Tch)
def chB (x : Leaf) (st : List Shp × Int) : Nat → Option (List Shp × Int)
  | 0 => some st
  | k + 1 => (chB x st k).bind fun st' =>
    let b := x.blocks.getD k 0
    let h := hadP old x k t
    if h = b then some st' else if h = -1 then some (st'.1 ++ [putS me b (longI x k)], b + 1) else none
def chL (l : List Leaf) : Nat → Option (List Shp × Int)
  | 0 => some ([], -1)
  | i + 1 => (chL l i).bind fun st => match l[i]? with
    | some x => chB me old t x st x.blocks.length
    | none => some st
end
def blkL (l : List Leaf) : List Int := l.flatMap fun x => x.blocks
noncomputable def chE (me n : Int) (old l : List Leaf) (st : List Shp × Int) : List Shp × Int :=
  let r := if st.2 < 0 then topL (blkL old ++ blkL l) 0 else st.2
  (st.1 ++ [putS me r (byt l).length, subS me n r], 0)
noncomputable def chg (me n : Int) (old l : List Leaf) (t : Tch) : List Shp × Int :=
  if TabOk old ∧ TabOk l then match chL me old t l l.length with
    | some st => chE me n old l st
    | none => ([], 2)
  else ([], 2)
theorem chB_none {me : Int} {old : List Leaf} {t : Tch} {x : Leaf} {st : List Shp × Int} {k : Nat} (h : chB me old t x st k = none) : ∀ d, chB me old t x st (k + d) = none
  | 0 => h
  | d + 1 => by rw [← Nat.add_assoc, chB, chB_none h d]; rfl
theorem chL_none {me : Int} {old : List Leaf} {t : Tch} {l : List Leaf} {k : Nat} (h : chL me old t l k = none) : ∀ d, chL me old t l (k + d) = none
  | 0 => h
  | d + 1 => by rw [← Nat.add_assoc, chL, chL_none h d]; rfl
theorem chg_bad {me n : Int} {old l : List Leaf} {t : Tch} {i k : Nat} {x : Leaf} {st : List Shp × Int} (hs : chL me old t l i = some st) (hx : l[i]? = some x) (hk : k ≤ x.blocks.length) (hb : chB me old t x st k = none) : chg me n old l t = ([], 2) := by
  have h1 : chB me old t x st x.blocks.length = none := by have := chB_none hb (x.blocks.length - k); rwa [show k + (x.blocks.length - k) = x.blocks.length by omega] at this
  have hi := (List.getElem?_eq_some_iff.1 hx).1
  have h2 : chL me old t l (i + 1) = none := by rw [chL, hs, hx]; exact h1
  have h3 : chL me old t l l.length = none := by have := chL_none h2 (l.length - (i + 1)); rwa [show i + 1 + (l.length - (i + 1)) = l.length by omega] at this
  unfold chg
  rw [h3]
  split <;> rfl
theorem chB_len {me : Int} {old : List Leaf} {t : Tch} {x : Leaf} {st st' : List Shp × Int} : ∀ {k : Nat}, chB me old t x st k = some st' → st'.1.length ≤ st.1.length + k
  | 0, h => by simp only [chB, Option.some.injEq] at h; subst h; omega
  | k + 1, h => by
    rw [chB] at h
    cases hq : chB me old t x st k with
    | none => rw [hq] at h; cases h
    | some st2 =>
      rw [hq] at h
      have ih := chB_len hq
      simp only [Option.bind_some] at h
      split at h
      · cases h; omega
      · split at h
        · cases h; simp; omega
        · cases h
theorem chL_len {me : Int} {old : List Leaf} {t : Tch} {l : List Leaf} (hb : ∀ x ∈ l, x.blocks.length ≤ 40) : ∀ {i : Nat} {st : List Shp × Int}, chL me old t l i = some st → st.1.length ≤ 40 * i
  | 0, st, h => by simp only [chL, Option.some.injEq] at h; subst h; simp
  | i + 1, st, h => by
    rw [chL] at h
    cases hq : chL me old t l i with
    | none => rw [hq] at h; cases h
    | some st2 =>
      rw [hq] at h
      have ih := chL_len hb hq
      simp only [Option.bind_some] at h
      split at h
      · rename_i x hx
        have := chB_len h
        have := hb x (List.mem_of_getElem? hx)
        omega
      · cases h; omega
theorem sized_of {x : Leaf} (h : x.Right) : Sized x := by
  rcases h.2.2 with ⟨_, q⟩ | ⟨_, q⟩
  · exact ⟨q.2.1, q.2.2.1⟩
  · have := q.2.2.1; unfold Sized; omega
theorem blk_of {x : Leaf} (h : x.Right) : ∀ b ∈ x.blocks, 0 ≤ b ∧ b ≤ 1099511627776 := by
  rcases h.2.2 with ⟨_, q⟩ | ⟨_, q⟩
  · intro b hb; exact q.1 b hb
  · intro b hb; have := q.2.2.2.1; rw [this] at hb; cases hb
theorem right_mem {l : List TL} (h : L21.Table (l.map (·.x))) {y : TL} (hy : y ∈ l) : y.x.Right := by
  obtain ⟨i, hi⟩ := List.mem_iff_getElem?.1 (List.mem_map.2 ⟨y, hy, rfl⟩ : y.x ∈ l.map (·.x))
  exact (h i _ hi).1
attribute [local go_sem] Try.underlying9 subPs_0 subAt_0 subSet_0 subPs_1 subAt_1 subSet_1 subPs_2 subAt_2 subSet_2 sizes_sub shapes_sub fits_sub zero_sub zt_sub built_sub
attribute [local go_sem] fits9
attribute [local go_sem] Try.underlying43 fits43
attribute [local go_sem] L21.size_leaf L21.p46_0 L21.p46_1 L21.p46_4 L21.p46_5 shpPs_0 shpAt_0 shpSet_0 shpPs_1 shpAt_1 shpSet_1 fits_shp zero_shp built_shp Try.underlying58
attribute [local go_sem] sizes_tch fits_tch zero_tch zt_tch built_tch
attribute [local go_sem] fits22 Try.underlying29
section
variable {σ : AST} {K : AV → AST → Prop}
theorem root_c {n : Int} (h : Rng n) (hK : K (.str (numS n)) σ) : TCalls Try.prog 40 [.int .i64 n] σ K := by
  refine tcalls_walk Try.f40 _ [.tmp 2] Try.func40 rfl rfl rfl mixed (Nat.le_of_ble_eq_true rfl) rfl fun hlen => ?_
  repeat' (first | (simp -dsimp only [↓reduceIte, go_sem]) | (refine arr_intro fun _ => ?_) | (refine later_intro ⟨keeps_nil, ?_⟩) | (refine later_intro ⟨keeps_refl, ?_⟩) | (with_reducible refine keeps_go ?_ ?_; focus (first | (simp [keeps_cons, keeps_none, objs_app, objs_app0]; done) | (simp only [keeps_cons, keeps_none, objs_app0, objs_app, and_true]; first | rfl | exact ⟨rfl, rfl⟩ | exact ⟨rfl, rfl, rfl⟩))) | (with_reducible refine (And.intro (a := keeps _ _ _) ?_ ?_); focus (first | (simp [keeps_cons, keeps_none, objs_app, objs_app0]; done) | (simp only [keeps_cons, keeps_none, objs_app0, objs_app, and_true]; first | rfl | exact ⟨rfl, rfl⟩ | exact ⟨rfl, rfl, rfl⟩))) | (refine both_ways ?_ ?_) | (rw [wrap_i64 (by omega) (by omega)]) | (refine guardV_split (fun h => ?_) (fun h => ?_) <;> (try rw [h]) <;> (try simp at h) <;> (try (exfalso; omega))) | (refine L01.number_c h.1 h.2 ?_))
  exact hK
def subW (n me : Int) : Sub := { sub0 with num := n, kind := 1, target := me }
theorem blks_x {l : List TL} : blks l = blkL (l.map (·.x)) := by unfold blks blkL; rw [List.flatMap_map]
theorem change_c {me n : Int} {old l : List TL} {to tl : Tk} {t : Tch} (hme : Rng me) (hn : Rng n) (hfo : FewL (old.map (·.x))) (hfl : FewL (l.map (·.x)))
    (hK : ∀ s' tk, Ext σ s' → K (.tuple [.slice tk ((chg me n (old.map (·.x)) (l.map (·.x)) t).1.map shpV), .int .i64 (chg me n (old.map (·.x)) (l.map (·.x)) t).2]) s') :
    TCalls Try.prog 10 [.int .i64 me, .int .i64 n, .slice to (old.map L21.leafV), .slice tl (l.map L21.leafV), tchV t] σ K := by
  by_cases hT : TabOk (old.map (·.x)) ∧ TabOk (l.map (·.x))
  · obtain ⟨hTo, hTl⟩ := hT
    refine tcalls_walk Try.f10 _ [.tmp 10, .tmp 11] Try.func10 rfl rfl rfl mixed (Nat.le_of_ble_eq_true rfl) rfl fun hlen => ?_
    repeat' (first | (simp -dsimp only [↓reduceIte, go_sem]) | (refine arr_intro fun _ => ?_) | (refine later_intro ⟨keeps_nil, ?_⟩) | (refine later_intro ⟨keeps_refl, ?_⟩) | (with_reducible refine keeps_go ?_ ?_; focus (first | (simp [keeps_cons, keeps_none, objs_app, objs_app0]; done) | (simp only [keeps_cons, keeps_none, objs_app0, objs_app, and_true]; first | rfl | exact ⟨rfl, rfl⟩ | exact ⟨rfl, rfl, rfl⟩))) | (with_reducible refine (And.intro (a := keeps _ _ _) ?_ ?_); focus (first | (simp [keeps_cons, keeps_none, objs_app, objs_app0]; done) | (simp only [keeps_cons, keeps_none, objs_app0, objs_app, and_true]; first | rfl | exact ⟨rfl, rfl⟩ | exact ⟨rfl, rfl, rfl⟩))) | (refine both_ways ?_ ?_) | (rw [wrap_i64 (by omega) (by omega)]) | (refine guardV_split (fun h => ?_) (fun h => ?_) <;> (try rw [h]) <;> (try simp at h) <;> (try (exfalso; omega))) | (refine table_c31 hfo (fun _ => ?_) (fun h => absurd hTo h)) | (refine table_c31 hfl (fun _ => ?_) (fun h => absurd hTl h)))
    have hRo : ∀ y ∈ old, y.x.Right := fun y hy => right_mem hTo.1 hy
    have hRl : ∀ y ∈ l, y.x.Right := fun y hy => right_mem hTl.1 hy
    have hol : old.length ≤ 40 := by have := hfo.1; rwa [List.length_map] at this
    have hll : l.length ≤ 40 := by have := hfl.1; rwa [List.length_map] at this
    have hlb : ∀ y ∈ l, y.x.blocks.length ≤ 40 := fun y hy => (hfl.2 y.x (List.mem_map.2 ⟨y, hy, rfl⟩)).1
    have hlb' : ∀ x ∈ l.map (·.x), x.blocks.length ≤ 40 := fun x hx => (hfl.2 x hx).1
    generalize hbt : (byt (l.map (·.x))).length = nb
    have hx0 : Ext σ (σ.app [.cells (tchV t)]) := Ext.app _ _
    have k0 : (σ.app [.cells (tchV t)]).objs[σ.objs.length]? = some (.cells (tchV t)) := objs_app0
    refine awp_rounds (fun (i : Nat) τ s => ∃ tb out root, i ≤ l.length ∧ chL me (old.map (·.x)) t (l.map (·.x)) i = some (out, root) ∧ -1 ≤ root ∧ root ≤ 1099511627777 ∧ Gr σ s tb out.length 2 ∧ s.objs[σ.objs.length]? = some (.cells (tchV t)) ∧ τ 0 = .int .i64 me ∧ τ 1 = .int .i64 n ∧ τ 2 = .slice to (old.map L21.leafV) ∧ τ 3 = .slice tl (l.map L21.leafV) ∧ τ 9 = .ptr (some (σ.objs.length, [])) ∧ τ 14 = .int .i64 nb ∧ τ 16 = .slice tb (out.map shpV) ∧ τ 17 = .int .i64 root ∧ τ 39 = .slice tl (l.map L21.leafV) ∧ τ 40 = .int .i64 l.length ∧ τ 41 = .int .i64 i) (fun i => l.length - i) 0 ?_ ?_
    · refine ⟨.full, [], -1, by omega, rfl, by omega, by omega, Gr.start' hx0, k0, ?_, ?_, ?_, ?_, ?_, ?_, ?_, ?_, ?_, ?_, ?_⟩ <;> (try simp only [go_sem, hbt]) <;> (try rfl)
    · rintro i τ s ⟨tb, out, root, hi, hch, hr1, hr2, hG, hk, t0, t1, t2, t3, t9, t14, t16, t17, t39, t40, t41⟩
      by_cases hib : i < l.length
      · have hlt1 : (i : Int) < l.length := by omega
        have hyi : l[i]? = some l[i] := List.getElem?_eq_getElem hib
        have hRy := hRl _ (List.getElem_mem hib)
        have hyb := hlb _ (List.getElem_mem hib)
        generalize l[i] = y at hyi hRy hyb
        have w1 : IntKind.i64.wrap ((i : Int) + 1) = (i : Int) + 1 := wrap_i64 (by omega) (by omega)
        have hol1 := chL_len hlb' hch
        dsimp only at hol1
        repeat' (first | (simp -dsimp only [↓reduceIte, go_sem, t0, t1, t2, t3, t9, t14, t16, t17, t39, t40, t41, hlt1, L21.leafV]) | (refine arr_intro fun _ => ?_) | (refine later_intro ⟨keeps_nil, ?_⟩) | (refine later_intro ⟨keeps_refl, ?_⟩) | (with_reducible refine keeps_go ?_ ?_; focus (first | (simp [keeps_cons, keeps_none, objs_app, objs_app0]; done) | (simp only [keeps_cons, keeps_none, objs_app0, objs_app, and_true]; first | rfl | exact ⟨rfl, rfl⟩ | exact ⟨rfl, rfl, rfl⟩))) | (with_reducible refine (And.intro (a := keeps _ _ _) ?_ ?_); focus (first | (simp [keeps_cons, keeps_none, objs_app, objs_app0]; done) | (simp only [keeps_cons, keeps_none, objs_app0, objs_app, and_true]; first | rfl | exact ⟨rfl, rfl⟩ | exact ⟨rfl, rfl, rfl⟩))) | (refine both_ways ?_ ?_) | (rw [wrap_i64 (by omega) (by omega)]) | (refine guardV_split (fun h => ?_) (fun h => ?_) <;> (try rw [h]) <;> (try simp at h) <;> (try (exfalso; omega))) | (refine nth_get hyi ?_))
        have hG2 : Gr σ (s.app [.cells (L21.leafV y)]) tb out.length 2 := hG.app
        have hk2 : (s.app [.cells (L21.leafV y)]).objs[σ.objs.length]? = some (.cells (tchV t)) := ext_knownV (Ext.app _ _) hk
        have hy2 : (s.app [.cells (L21.leafV y)]).objs[s.objs.length]? = some (.cells (L21.leafV y)) := objs_app0
        change awp _ _ _ _ (s.app [.cells (L21.leafV y)])
        have hjn : σ.objs.length ≠ s.objs.length := fun e => by have := (List.getElem?_eq_some_iff.1 hk).1; omega
        generalize s.objs.length = j at *
        generalize s.app [.cells (L21.leafV y)] = s2 at hG2 hk2 hy2 ⊢
        refine awp_rounds (fun (k : Nat) τ s => ∃ tb out' root', k ≤ y.x.blocks.length ∧ chB me (old.map (·.x)) t y.x (out, root) k = some (out', root') ∧ -1 ≤ root' ∧ root' ≤ 1099511627777 ∧ Gr σ s tb out'.length 2 ∧ s.objs[σ.objs.length]? = some (.cells (tchV t)) ∧ s.objs[j]? = some (.cells (L21.leafV y)) ∧ τ 0 = .int .i64 me ∧ τ 1 = .int .i64 n ∧ τ 2 = .slice to (old.map L21.leafV) ∧ τ 3 = .slice tl (l.map L21.leafV) ∧ τ 9 = .ptr (some (σ.objs.length, [])) ∧ τ 14 = .int .i64 nb ∧ τ 16 = .slice tb (out'.map shpV) ∧ τ 17 = .int .i64 root' ∧ τ 39 = .slice tl (l.map L21.leafV) ∧ τ 40 = .int .i64 l.length ∧ τ 41 = .int .i64 i ∧ τ 19 = .ptr (some (j, [])) ∧ τ 46 = .slice y.t1 (y.x.blocks.map (AV.int .i64)) ∧ τ 47 = .int .i64 y.x.blocks.length ∧ τ 48 = .int .i64 k) (fun k => y.x.blocks.length - k) 0 ?_ ?_
        · refine ⟨tb, out, root, by omega, rfl, hr1, hr2, hG2, hk2, hy2, ?_, ?_, ?_, ?_, ?_, ?_, ?_, ?_, ?_, ?_, ?_, ?_, ?_, ?_, ?_⟩ <;> (try simp only [go_sem, t0, t1, t2, t3, t9, t14, t16, t17, t39, t40, t41]) <;> (try rfl)
        · clear t0 t1 t2 t3 t9 t14 t16 t17 t39 t40 t41 hG hk hG2 hk2 hy2
          rintro k τ s ⟨tb, out', root', hk, hcb, hq1, hq2, hG, hk2, hy2, t0, t1, t2, t3, t9, t14, t16, t17, t39, t40, t41, t19, t46, t47, t48⟩
          have hob := chB_len hcb
          dsimp only at hob
          have c0 := cellAt_known hk2
          have c1 := cellAt_known hy2
          by_cases hkb : k < y.x.blocks.length
          · have hlt2 : (k : Int) < y.x.blocks.length := by omega
            have hbk : y.x.blocks[k]? = some y.x.blocks[k] := List.getElem?_eq_getElem hkb
            have hbb := blk_of hRy _ (List.getElem_mem hkb)
            have hbd : y.x.blocks.getD k 0 = y.x.blocks[k] := by rw [List.getD_eq_getElem?_getD, hbk]; rfl
            generalize y.x.blocks[k] = b at hbk hbb hbd
            have w2 : IntKind.i64.wrap ((k : Int) + 1) = (k : Int) + 1 := wrap_i64 (by omega) (by omega)
            have w3 : IntKind.i64.wrap (b + 1) = b + 1 := wrap_i64 (by omega) (by omega)
            have hlg := longI_le (sized_of hRy) (i := k) (by omega)
            generalize hh : hadP (old.map (·.x)) y.x k t = h
            have e2 : chB me (old.map (·.x)) t y.x (out, root) (k + 1) = if h = b then some (out', root') else if h = -1 then some (out' ++ [putS me b (longI y.x k)], b + 1) else none := by
              rw [chB, hcb, Option.bind_some, hbd]; dsimp only; rw [hh]
            have hhad : ∀ {s : AST} {K : AV → AST → Prop}, K (.int .i64 h) s → TCalls Try.prog 37 [.slice to (old.map L21.leafV), L21.leafV y, .int .i64 k, tchV t] s K := fun hK => had_c (fun z hz => sized_of (hRo z hz)) (sized_of hRy) (by omega) (by omega) (by rw [hh]; exact hK)
            by_cases hhb : h = b
            · rw [if_pos hhb] at e2
              have d1 : (h == b) = true := by simpa using hhb
              repeat' (first | (simp -dsimp only [↓reduceIte, go_sem, t0, t1, t2, t3, t9, t14, t16, t17, t39, t40, t41, t19, t46, t47, t48, hlt2, c0, c1, d1, w2]) | (refine arr_intro fun _ => ?_) | (refine later_intro ⟨keeps_nil, ?_⟩) | (refine later_intro ⟨keeps_refl, ?_⟩) | (with_reducible refine keeps_go ?_ ?_; focus (first | (simp [keeps_cons, keeps_none, objs_app, objs_app0]; done) | (simp only [keeps_cons, keeps_none, objs_app0, objs_app, and_true]; first | rfl | exact ⟨rfl, rfl⟩ | exact ⟨rfl, rfl, rfl⟩))) | (with_reducible refine (And.intro (a := keeps _ _ _) ?_ ?_); focus (first | (simp [keeps_cons, keeps_none, objs_app, objs_app0]; done) | (simp only [keeps_cons, keeps_none, objs_app0, objs_app, and_true]; first | rfl | exact ⟨rfl, rfl⟩ | exact ⟨rfl, rfl, rfl⟩))) | (refine both_ways ?_ ?_) | (rw [wrap_i64 (by omega) (by omega)]) | (refine guardV_split (fun h => ?_) (fun h => ?_) <;> (try rw [h]) <;> (try simp at h) <;> (try (exfalso; omega))) | (refine nth_get hbk ?_) | (refine hhad ?_))
              ((first | refine later_intro ⟨k + 1, by omega, tb, out', root', ?_⟩ | refine ⟨k + 1, by omega, tb, out', root', ?_⟩); (repeat' with_reducible apply And.intro); all_goals (first | omega | (simp only [go_sem, t0, t1, t2, t3, t9, t14, t16, t17, t39, t40, t41, t19, t46, t47, t48, w2]; done) | rfl | assumption | (simp only [go_sem, t0, t1, t2, t3, t9, t14, t16, t17, t39, t40, t41, t19, t46, t47, t48, w2]; rfl) | skip))
            · by_cases hh1 : h = -1
              · rw [if_neg hhb, if_pos hh1] at e2
                have d1 : ((-1 : Int) == b) = false := by rw [hh1] at hhb; simpa using hhb
                rw [hh1] at hhad
                have hpb : Rng b := ⟨by omega, by omega⟩
                repeat' (first | (simp -dsimp only [↓reduceIte, go_sem, t0, t1, t2, t3, t9, t14, t16, t17, t39, t40, t41, t19, t46, t47, t48, hlt2, c0, c1, d1, w2, w3]) | (refine arr_intro fun _ => ?_) | (refine later_intro ⟨keeps_nil, ?_⟩) | (refine later_intro ⟨keeps_refl, ?_⟩) | (with_reducible refine keeps_go ?_ ?_; focus (first | (simp [keeps_cons, keeps_none, objs_app, objs_app0]; done) | (simp only [keeps_cons, keeps_none, objs_app0, objs_app, and_true]; first | rfl | exact ⟨rfl, rfl⟩ | exact ⟨rfl, rfl, rfl⟩))) | (with_reducible refine (And.intro (a := keeps _ _ _) ?_ ?_); focus (first | (simp [keeps_cons, keeps_none, objs_app, objs_app0]; done) | (simp only [keeps_cons, keeps_none, objs_app0, objs_app, and_true]; first | rfl | exact ⟨rfl, rfl⟩ | exact ⟨rfl, rfl, rfl⟩))) | (refine both_ways ?_ ?_) | (rw [wrap_i64 (by omega) (by omega)]) | (refine guardV_split (fun h => ?_) (fun h => ?_) <;> (try rw [h]) <;> (try simp at h) <;> (try (exfalso; omega))) | (refine nth_get hbk ?_) | (refine hhad ?_) | (refine long_c (sized_of hRy) (by omega) ?_) | (refine put31_c hme hpb (by omega) ?_) | (refine build_slice E29s rfl (by decide) (by intro v hv; simp at hv; try (subst hv; simp [go_sem])) ?_))
                refine append_shp (y := putS me b (longI y.x k)) hG.c (by omega) ?_
                have og : ∀ (a : AST) m e (t : Tk), (growS a t m e).objs = a.objs := fun a m e t => growS_objs
                repeat' (first | (simp -dsimp only [↓reduceIte, go_sem, t0, t1, t2, t3, t9, t14, t16, t17, t39, t40, t41, t19, t46, t47, t48, w2, w3]) | (refine arr_intro fun _ => ?_) | (refine later_intro ⟨keeps_nil, ?_⟩) | (refine later_intro ⟨keeps_refl, ?_⟩) | (with_reducible refine keeps_go ?_ ?_; focus (first | (simp [keeps_cons, keeps_none, objs_app, objs_app0]; done) | (simp only [keeps_cons, keeps_none, objs_app0, objs_app, and_true]; first | rfl | exact ⟨rfl, rfl⟩ | exact ⟨rfl, rfl, rfl⟩))) | (with_reducible refine (And.intro (a := keeps _ _ _) ?_ ?_); focus (first | (simp [keeps_cons, keeps_none, objs_app, objs_app0]; done) | (simp only [keeps_cons, keeps_none, objs_app0, objs_app, and_true]; first | rfl | exact ⟨rfl, rfl⟩ | exact ⟨rfl, rfl, rfl⟩))) | (refine both_ways ?_ ?_) | (rw [wrap_i64 (by omega) (by omega)]) | (refine guardV_split (fun h => ?_) (fun h => ?_) <;> (try rw [h]) <;> (try simp at h) <;> (try (exfalso; omega))) | (refine nth_get hbk ?_))
                ((first | refine later_intro ⟨k + 1, by omega, growT s tb, out' ++ [putS me b (longI y.x k)], b + 1, ?_⟩ | refine ⟨k + 1, by omega, growT s tb, out' ++ [putS me b (longI y.x k)], b + 1, ?_⟩); (repeat' with_reducible apply And.intro); all_goals (first | omega | (simp only [go_sem, t0, t1, t2, t3, t9, t14, t16, t17, t39, t40, t41, t19, t46, t47, t48, w2, w3]; done) | rfl | assumption | (simp only [go_sem, t0, t1, t2, t3, t9, t14, t16, t17, t39, t40, t41, t19, t46, t47, t48, w2, w3]; rfl) | skip))
                all_goals first
                  | exact e2
                  | (rw [List.length_append]; exact hG.grow)
                  | (rw [og]; assumption)
                  | trace_state
              · rw [if_neg hhb, if_neg hh1] at e2
                have d1 : (h == b) = false := by simpa using hhb
                have d2 : (h == -1) = false := by simpa using hh1
                repeat' (first | (simp -dsimp only [↓reduceIte, go_sem, t0, t1, t2, t3, t9, t14, t16, t17, t39, t40, t41, t19, t46, t47, t48, hlt2, c0, c1, d1, d2]) | (refine arr_intro fun _ => ?_) | (refine later_intro ⟨keeps_nil, ?_⟩) | (refine later_intro ⟨keeps_refl, ?_⟩) | (with_reducible refine keeps_go ?_ ?_; focus (first | (simp [keeps_cons, keeps_none, objs_app, objs_app0]; done) | (simp only [keeps_cons, keeps_none, objs_app0, objs_app, and_true]; first | rfl | exact ⟨rfl, rfl⟩ | exact ⟨rfl, rfl, rfl⟩))) | (with_reducible refine (And.intro (a := keeps _ _ _) ?_ ?_); focus (first | (simp [keeps_cons, keeps_none, objs_app, objs_app0]; done) | (simp only [keeps_cons, keeps_none, objs_app0, objs_app, and_true]; first | rfl | exact ⟨rfl, rfl⟩ | exact ⟨rfl, rfl, rfl⟩))) | (refine both_ways ?_ ?_) | (rw [wrap_i64 (by omega) (by omega)]) | (refine guardV_split (fun h => ?_) (fun h => ?_) <;> (try rw [h]) <;> (try simp at h) <;> (try (exfalso; omega))) | (refine nth_get hbk ?_) | (refine hhad ?_))
                have := hK _ .full hG.x
                rw [chg_bad hch (by rw [List.getElem?_map, hyi]; rfl) (by omega) e2] at this
                exact this
          · obtain rfl : k = y.x.blocks.length := by omega
            have hlt2 : ¬ ((y.x.blocks.length : Nat) : Int) < y.x.blocks.length := by omega
            have e3 : chL me (old.map (·.x)) t (l.map (·.x)) (i + 1) = some (out', root') := by
              rw [chL, hch, List.getElem?_map, hyi]; exact hcb
            repeat' (first | (simp -dsimp only [↓reduceIte, go_sem, t0, t1, t2, t3, t9, t14, t16, t17, t39, t40, t41, t19, t46, t47, t48, hlt2, w1]) | (refine arr_intro fun _ => ?_) | (refine later_intro ⟨keeps_nil, ?_⟩) | (refine later_intro ⟨keeps_refl, ?_⟩) | (with_reducible refine keeps_go ?_ ?_; focus (first | (simp [keeps_cons, keeps_none, objs_app, objs_app0]; done) | (simp only [keeps_cons, keeps_none, objs_app0, objs_app, and_true]; first | rfl | exact ⟨rfl, rfl⟩ | exact ⟨rfl, rfl, rfl⟩))) | (with_reducible refine (And.intro (a := keeps _ _ _) ?_ ?_); focus (first | (simp [keeps_cons, keeps_none, objs_app, objs_app0]; done) | (simp only [keeps_cons, keeps_none, objs_app0, objs_app, and_true]; first | rfl | exact ⟨rfl, rfl⟩ | exact ⟨rfl, rfl, rfl⟩))) | (refine both_ways ?_ ?_) | (rw [wrap_i64 (by omega) (by omega)]) | (refine guardV_split (fun h => ?_) (fun h => ?_) <;> (try rw [h]) <;> (try simp at h) <;> (try (exfalso; omega))))
            ((first | refine later_intro ⟨i + 1, by omega, tb, out', root', ?_⟩ | refine ⟨i + 1, by omega, tb, out', root', ?_⟩); (repeat' with_reducible apply And.intro); all_goals (first | omega | (simp only [go_sem, t0, t1, t2, t3, t9, t14, t16, t17, t39, t40, t41, t19, t46, t47, t48, w1]; done) | rfl | assumption | (simp only [go_sem, t0, t1, t2, t3, t9, t14, t16, t17, t39, t40, t41, t19, t46, t47, t48, w1]; rfl) | skip))
            all_goals trace_state
      · obtain rfl : i = l.length := by omega
        have hlt1 : ¬ ((l.length : Nat) : Int) < l.length := by omega
        have e0 : chg me n (old.map (·.x)) (l.map (·.x)) t = chE me n (old.map (·.x)) (l.map (·.x)) (out, root) := by
          unfold chg
          rw [if_pos ⟨hTo, hTl⟩, List.length_map, hch]
        have hol1 := chL_len hlb' hch
        dsimp only at hol1
        have hnb : (nb : Int) ≤ 4096 := by have := hTl.2.1; omega
        have hts : ∀ p ∈ [(to, old), (tl, l)], ∀ y ∈ p.2, ∀ b ∈ y.x.blocks, 0 ≤ b ∧ b ≤ 1099511627776 := by
          intro p hp y hy b hb
          simp only [List.mem_cons, List.not_mem_nil, or_false] at hp
          rcases hp with rfl | rfl
          · exact blk_of (hRo y hy) b hb
          · exact blk_of (hRl y hy) b hb
        have htv : topL ([(to, old), (tl, l)].flatMap fun p => blks p.2) 0 = topL (blkL (old.map (·.x)) ++ blkL (l.map (·.x))) 0 := by simp [blks_x]
        have htb : 0 ≤ topL (blkL (old.map (·.x)) ++ blkL (l.map (·.x))) 0 ∧ topL (blkL (old.map (·.x)) ++ blkL (l.map (·.x))) 0 ≤ 1099511627777 := by
          refine ⟨topL_ge _ _, topL_le (by omega) fun b hb => ?_⟩
          rw [← blks_x, ← blks_x] at hb
          rcases List.mem_append.1 hb with hb | hb
          · obtain ⟨y, hy, hb⟩ := List.mem_flatMap.1 hb
            have := blk_of (hRo y hy) b hb; omega
          · obtain ⟨y, hy, hb⟩ := List.mem_flatMap.1 hb
            have := blk_of (hRl y hy) b hb; omega
        have e1 : ∀ r, r = (if root < 0 then topL (blkL (old.map (·.x)) ++ blkL (l.map (·.x))) 0 else root) → chg me n (old.map (·.x)) (l.map (·.x)) t = (out ++ [putS me r nb] ++ [subS me n r], 0) := fun r hr => by
          rw [e0, chE]; dsimp only; rw [← hr, hbt]; simp
        have og : ∀ (a : AST) m e (t : Tk), (growS a t m e).objs = a.objs := fun a m e t => growS_objs
        by_cases hr0 : root < 0
        · repeat' (first | (simp -dsimp only [↓reduceIte, go_sem, t0, t1, t2, t3, t9, t14, t16, t17, t39, t40, t41, hlt1, hr0, htv]) | (refine arr_intro fun _ => ?_) | (refine later_intro ⟨keeps_nil, ?_⟩) | (refine later_intro ⟨keeps_refl, ?_⟩) | (with_reducible refine keeps_go ?_ ?_; focus (first | (simp [keeps_cons, keeps_none, objs_app, objs_app0]; done) | (simp only [keeps_cons, keeps_none, objs_app0, objs_app, and_true]; first | rfl | exact ⟨rfl, rfl⟩ | exact ⟨rfl, rfl, rfl⟩))) | (with_reducible refine (And.intro (a := keeps _ _ _) ?_ ?_); focus (first | (simp [keeps_cons, keeps_none, objs_app, objs_app0]; done) | (simp only [keeps_cons, keeps_none, objs_app0, objs_app, and_true]; first | rfl | exact ⟨rfl, rfl⟩ | exact ⟨rfl, rfl, rfl⟩))) | (refine both_ways ?_ ?_) | (rw [wrap_i64 (by omega) (by omega)]) | (refine guardV_split (fun h => ?_) (fun h => ?_) <;> (try rw [h]) <;> (try simp at h) <;> (try (exfalso; omega))) | (refine build_slice E146 rfl (by decide) (by intro v hv; simp at hv; rcases hv with rfl | rfl <;> simp [go_sem]) ?_) | (refine top_c (ts := [(to, old), (tl, l)]) hts ?_))
          have e2 := e1 _ (by rw [if_pos hr0])
          generalize topL (blkL (old.map (·.x)) ++ blkL (l.map (·.x))) 0 = r at htb e2 ⊢
          have hnr : nlen r ≤ 22 := nlen_le ⟨by omega, by omega⟩
          repeat' (first | (simp -dsimp only [↓reduceIte, go_sem, t0, t1, t2, t3, t9, t14, t16, t17, t39, t40, t41, hlt1, hr0]) | (refine arr_intro fun _ => ?_) | (refine later_intro ⟨keeps_nil, ?_⟩) | (refine later_intro ⟨keeps_refl, ?_⟩) | (with_reducible refine keeps_go ?_ ?_; focus (first | (simp [keeps_cons, keeps_none, objs_app, objs_app0]; done) | (simp only [keeps_cons, keeps_none, objs_app0, objs_app, and_true]; first | rfl | exact ⟨rfl, rfl⟩ | exact ⟨rfl, rfl, rfl⟩))) | (with_reducible refine (And.intro (a := keeps _ _ _) ?_ ?_); focus (first | (simp [keeps_cons, keeps_none, objs_app, objs_app0]; done) | (simp only [keeps_cons, keeps_none, objs_app0, objs_app, and_true]; first | rfl | exact ⟨rfl, rfl⟩ | exact ⟨rfl, rfl, rfl⟩))) | (refine both_ways ?_ ?_) | (rw [wrap_i64 (by omega) (by omega)]) | (refine guardV_split (fun h => ?_) (fun h => ?_) <;> (try rw [h]) <;> (try simp at h) <;> (try (exfalso; omega))) | (refine put31_c hme ⟨by omega, by omega⟩ (by omega) ?_) | (refine build_slice E29s rfl (by decide) (by intro v hv; simp at hv; try (subst hv; simp [go_sem])) ?_))
          refine append_shp (y := putS me r nb) hG.c (by omega) ?_
          have hG3 := hG.grow (m := out.length + 1)
          generalize growS s tb (out.length + 1) 2 = s3 at hG3 ⊢
          generalize growT s tb = tb3 at hG3 ⊢
          have hl3 : out.length + 1 = (out ++ [putS me r nb]).length := by simp
          rw [hl3] at hG3
          repeat' (first | (simp -dsimp only [↓reduceIte, go_sem, t0, t1, t2, t3, t9, t14, t16, t17, t39, t40, t41]) | (refine arr_intro fun _ => ?_) | (refine later_intro ⟨keeps_nil, ?_⟩) | (refine later_intro ⟨keeps_refl, ?_⟩) | (with_reducible refine keeps_go ?_ ?_; focus (first | (simp [keeps_cons, keeps_none, objs_app, objs_app0]; done) | (simp only [keeps_cons, keeps_none, objs_app0, objs_app, and_true]; first | rfl | exact ⟨rfl, rfl⟩ | exact ⟨rfl, rfl, rfl⟩))) | (with_reducible refine (And.intro (a := keeps _ _ _) ?_ ?_); focus (first | (simp [keeps_cons, keeps_none, objs_app, objs_app0]; done) | (simp only [keeps_cons, keeps_none, objs_app0, objs_app, and_true]; first | rfl | exact ⟨rfl, rfl⟩ | exact ⟨rfl, rfl, rfl⟩))) | (refine both_ways ?_ ?_) | (rw [wrap_i64 (by omega) (by omega)]) | (refine guardV_split (fun h => ?_) (fun h => ?_) <;> (try rw [h]) <;> (try simp at h) <;> (try (exfalso; omega))) | (with_reducible refine awp_drawT (id := 25) (.op 0 2 (.op 1 2 (.op 2 2 (.op 3 2 (.op 4 3 (.op 5 2 (.op 6 3 (.op 7 2 (.op 8 1 (.op 9 2 (.op 10 2 .nil))))))))))) (by kernel_rfl) ?_) | (refine root_c ⟨by omega, by omega⟩ ?_) | (refine submit31_c (x := subW n me) hme hn (show Rng 1 from ⟨by decide, by decide⟩) hme (by have h := hnr; unfold nlen at h; omega) ?_) | (refine build_slice E29s rfl (by decide) (by intro v hv; simp at hv; try (subst hv; simp [go_sem])) ?_))
          refine append_shp (y := subS me n r) hG3.app.c (by rw [List.length_append]; simp; omega) ?_
          repeat' (first | (simp -dsimp only [↓reduceIte, go_sem]) | (refine arr_intro fun _ => ?_) | (refine later_intro ⟨keeps_nil, ?_⟩) | (refine later_intro ⟨keeps_refl, ?_⟩) | (with_reducible refine keeps_go ?_ ?_; focus (first | (simp [keeps_cons, keeps_none, objs_app, objs_app0]; done) | (simp only [keeps_cons, keeps_none, objs_app0, objs_app, and_true]; first | rfl | exact ⟨rfl, rfl⟩ | exact ⟨rfl, rfl, rfl⟩))) | (with_reducible refine (And.intro (a := keeps _ _ _) ?_ ?_); focus (first | (simp [keeps_cons, keeps_none, objs_app, objs_app0]; done) | (simp only [keeps_cons, keeps_none, objs_app0, objs_app, and_true]; first | rfl | exact ⟨rfl, rfl⟩ | exact ⟨rfl, rfl, rfl⟩))) | (refine both_ways ?_ ?_) | (rw [wrap_i64 (by omega) (by omega)]) | (refine guardV_split (fun h => ?_) (fun h => ?_) <;> (try rw [h]) <;> (try simp at h) <;> (try (exfalso; omega))))
          rw [e2] at hK
          exact hK _ _ hG3.app.grow.x
        · have e2 := e1 root (by rw [if_neg hr0])
          have htb : 0 ≤ root ∧ root ≤ 1099511627777 := by omega
          repeat' (first | (simp -dsimp only [↓reduceIte, go_sem, t0, t1, t2, t3, t9, t14, t16, t17, t39, t40, t41, hlt1, hr0]) | (refine arr_intro fun _ => ?_) | (refine later_intro ⟨keeps_nil, ?_⟩) | (refine later_intro ⟨keeps_refl, ?_⟩) | (with_reducible refine keeps_go ?_ ?_; focus (first | (simp [keeps_cons, keeps_none, objs_app, objs_app0]; done) | (simp only [keeps_cons, keeps_none, objs_app0, objs_app, and_true]; first | rfl | exact ⟨rfl, rfl⟩ | exact ⟨rfl, rfl, rfl⟩))) | (with_reducible refine (And.intro (a := keeps _ _ _) ?_ ?_); focus (first | (simp [keeps_cons, keeps_none, objs_app, objs_app0]; done) | (simp only [keeps_cons, keeps_none, objs_app0, objs_app, and_true]; first | rfl | exact ⟨rfl, rfl⟩ | exact ⟨rfl, rfl, rfl⟩))) | (refine both_ways ?_ ?_) | (rw [wrap_i64 (by omega) (by omega)]) | (refine guardV_split (fun h => ?_) (fun h => ?_) <;> (try rw [h]) <;> (try simp at h) <;> (try (exfalso; omega))))
          obtain ⟨r, rfl⟩ : ∃ r, r = root := ⟨_, rfl⟩
          have hnr : nlen r ≤ 22 := nlen_le ⟨by omega, by omega⟩
          repeat' (first | (simp -dsimp only [↓reduceIte, go_sem, t0, t1, t2, t3, t9, t14, t16, t17, t39, t40, t41, hlt1, hr0]) | (refine arr_intro fun _ => ?_) | (refine later_intro ⟨keeps_nil, ?_⟩) | (refine later_intro ⟨keeps_refl, ?_⟩) | (with_reducible refine keeps_go ?_ ?_; focus (first | (simp [keeps_cons, keeps_none, objs_app, objs_app0]; done) | (simp only [keeps_cons, keeps_none, objs_app0, objs_app, and_true]; first | rfl | exact ⟨rfl, rfl⟩ | exact ⟨rfl, rfl, rfl⟩))) | (with_reducible refine (And.intro (a := keeps _ _ _) ?_ ?_); focus (first | (simp [keeps_cons, keeps_none, objs_app, objs_app0]; done) | (simp only [keeps_cons, keeps_none, objs_app0, objs_app, and_true]; first | rfl | exact ⟨rfl, rfl⟩ | exact ⟨rfl, rfl, rfl⟩))) | (refine both_ways ?_ ?_) | (rw [wrap_i64 (by omega) (by omega)]) | (refine guardV_split (fun h => ?_) (fun h => ?_) <;> (try rw [h]) <;> (try simp at h) <;> (try (exfalso; omega))) | (refine put31_c hme ⟨by omega, by omega⟩ (by omega) ?_) | (refine build_slice E29s rfl (by decide) (by intro v hv; simp at hv; try (subst hv; simp [go_sem])) ?_))
          refine append_shp (y := putS me r nb) hG.c (by omega) ?_
          have hG3 := hG.grow (m := out.length + 1)
          generalize growS s tb (out.length + 1) 2 = s3 at hG3 ⊢
          generalize growT s tb = tb3 at hG3 ⊢
          have hl3 : out.length + 1 = (out ++ [putS me r nb]).length := by simp
          rw [hl3] at hG3
          repeat' (first | (simp -dsimp only [↓reduceIte, go_sem, t0, t1, t2, t3, t9, t14, t16, t17, t39, t40, t41]) | (refine arr_intro fun _ => ?_) | (refine later_intro ⟨keeps_nil, ?_⟩) | (refine later_intro ⟨keeps_refl, ?_⟩) | (with_reducible refine keeps_go ?_ ?_; focus (first | (simp [keeps_cons, keeps_none, objs_app, objs_app0]; done) | (simp only [keeps_cons, keeps_none, objs_app0, objs_app, and_true]; first | rfl | exact ⟨rfl, rfl⟩ | exact ⟨rfl, rfl, rfl⟩))) | (with_reducible refine (And.intro (a := keeps _ _ _) ?_ ?_); focus (first | (simp [keeps_cons, keeps_none, objs_app, objs_app0]; done) | (simp only [keeps_cons, keeps_none, objs_app0, objs_app, and_true]; first | rfl | exact ⟨rfl, rfl⟩ | exact ⟨rfl, rfl, rfl⟩))) | (refine both_ways ?_ ?_) | (rw [wrap_i64 (by omega) (by omega)]) | (refine guardV_split (fun h => ?_) (fun h => ?_) <;> (try rw [h]) <;> (try simp at h) <;> (try (exfalso; omega))) | (with_reducible refine awp_drawT (id := 25) (.op 0 2 (.op 1 2 (.op 2 2 (.op 3 2 (.op 4 3 (.op 5 2 (.op 6 3 (.op 7 2 (.op 8 1 (.op 9 2 (.op 10 2 .nil))))))))))) (by kernel_rfl) ?_) | (refine root_c ⟨by omega, by omega⟩ ?_) | (refine submit31_c (x := subW n me) hme hn (show Rng 1 from ⟨by decide, by decide⟩) hme (by have h := hnr; unfold nlen at h; omega) ?_) | (refine build_slice E29s rfl (by decide) (by intro v hv; simp at hv; try (subst hv; simp [go_sem])) ?_))
          refine append_shp (y := subS me n r) hG3.app.c (by rw [List.length_append]; simp; omega) ?_
          repeat' (first | (simp -dsimp only [↓reduceIte, go_sem]) | (refine arr_intro fun _ => ?_) | (refine later_intro ⟨keeps_nil, ?_⟩) | (refine later_intro ⟨keeps_refl, ?_⟩) | (with_reducible refine keeps_go ?_ ?_; focus (first | (simp [keeps_cons, keeps_none, objs_app, objs_app0]; done) | (simp only [keeps_cons, keeps_none, objs_app0, objs_app, and_true]; first | rfl | exact ⟨rfl, rfl⟩ | exact ⟨rfl, rfl, rfl⟩))) | (with_reducible refine (And.intro (a := keeps _ _ _) ?_ ?_); focus (first | (simp [keeps_cons, keeps_none, objs_app, objs_app0]; done) | (simp only [keeps_cons, keeps_none, objs_app0, objs_app, and_true]; first | rfl | exact ⟨rfl, rfl⟩ | exact ⟨rfl, rfl, rfl⟩))) | (refine both_ways ?_ ?_) | (rw [wrap_i64 (by omega) (by omega)]) | (refine guardV_split (fun h => ?_) (fun h => ?_) <;> (try rw [h]) <;> (try simp at h) <;> (try (exfalso; omega))))
          rw [e2] at hK
          exact hK _ _ hG3.app.grow.x
  · have e : chg me n (old.map (·.x)) (l.map (·.x)) t = ([], 2) := by unfold chg; rw [if_neg hT]
    rw [e] at hK
    refine tcalls_walk Try.f10 _ [.tmp 10, .tmp 11] Try.func10 rfl rfl rfl mixed (Nat.le_of_ble_eq_true rfl) rfl fun hlen => ?_
    repeat' (first | (simp -dsimp only [↓reduceIte, go_sem]) | (refine arr_intro fun _ => ?_) | (refine later_intro ⟨keeps_nil, ?_⟩) | (refine later_intro ⟨keeps_refl, ?_⟩) | (with_reducible refine keeps_go ?_ ?_; focus (first | (simp [keeps_cons, keeps_none, objs_app, objs_app0]; done) | (simp only [keeps_cons, keeps_none, objs_app0, objs_app, and_true]; first | rfl | exact ⟨rfl, rfl⟩ | exact ⟨rfl, rfl, rfl⟩))) | (with_reducible refine (And.intro (a := keeps _ _ _) ?_ ?_); focus (first | (simp [keeps_cons, keeps_none, objs_app, objs_app0]; done) | (simp only [keeps_cons, keeps_none, objs_app0, objs_app, and_true]; first | rfl | exact ⟨rfl, rfl⟩ | exact ⟨rfl, rfl, rfl⟩))) | (refine both_ways ?_ ?_) | (rw [wrap_i64 (by omega) (by omega)]) | (refine guardV_split (fun h => ?_) (fun h => ?_) <;> (try rw [h]) <;> (try simp at h) <;> (try (exfalso; omega))) | (refine table_c31 hfo (fun h => ?_) (fun h n => ?_)) | (refine table_c31 hfl (fun h => ?_) (fun h n => ?_)))
    · exact absurd ⟨‹_›, ‹_›⟩ hT
    all_goals exact hK _ .full (Ext.app _ _)
end
section
variable {σ : AST} {K : AV → AST → Prop}
end
theorem eq_shp {a b : Shp} : eqA Try.prog 40 58 (.agg (shpPs a)) (.agg (shpPs b)) = some (decide (a = b)) := by
  have hs : Try.prog.stoodInHeld 58 = false := by kernel_rfl
  simp only [eqA, Try.underlying58, hs, if_true]
  unfold shpPs
  rw [eqAs_cons ⟨by decide, by simp [AV.sizes, AV.size], by simp [AV.sizes, AV.size], by kernel_rfl, by simp [AV.size]; kernel_rfl, by kernel_rfl, by simp [AV.size]; kernel_rfl⟩ eq_int3]
  refine (Classical.em (a.kind = b.kind)).elim (fun h0 => ?_) (fun h0 => by rw [if_neg (by simpa [dig_ext] using h0), decide_eq_false (fun e => h0 (congrArg Shp.kind e))])
  rw [if_pos (by simpa [dig_ext] using h0)]
  rw [eqAs_cons ⟨by decide, by simp [AV.sizes, AV.size], by simp [AV.sizes, AV.size], by kernel_rfl, by simp [AV.size]; kernel_rfl, by kernel_rfl, by simp [AV.size]; kernel_rfl⟩ eq_int3]
  refine (Classical.em (a.size = b.size)).elim (fun h1 => ?_) (fun h1 => by rw [if_neg (by simpa [dig_ext] using h1), decide_eq_false (fun e => h1 (congrArg Shp.size e))])
  rw [if_pos (by simpa [dig_ext] using h1)]
  rw [decide_eq_true (by cases a; cases b; simp_all)]; simp only [eqAs]
theorem bin_shp_eql {a b : Shp} {KV : AV → Prop} : binW Try.prog .eql 58 (.agg (shpPs a)) (.agg (shpPs b)) KV = KV (.bool (decide (a = b))) := by
  have h : Try.prog.eqGuardType Try.prog.depth 58 = false := by kernel_rfl
  simp [binW, eqW, eq_shp, h]
theorem bin_shp_neq {a b : Shp} {KV : AV → Prop} : binW Try.prog .neq 58 (.agg (shpPs a)) (.agg (shpPs b)) KV = KV (.bool !(decide (a = b))) := by
  have h : Try.prog.eqGuardType Try.prog.depth 58 = false := by kernel_rfl
  simp [binW, eqW, eq_shp, h]

section
variable {σ : AST} {K : AV → AST → Prop}
theorem few_c {l : List TL} {tk : Tk} (hT : FewL (l.map (·.x)) → K (.bool true) σ) (hF : ¬ FewL (l.map (·.x)) → K (.bool false) σ) : TCalls Try.prog 8 [.slice tk (l.map L21.leafV)] σ K := by
  by_cases hl : l.length ≤ 40
  · have hl1 : ¬ (40 : Int) < l.length := by omega
    refine tcalls_walk Try.f8 _ [.tmp 2] Try.func8 rfl rfl rfl mixed (Nat.le_of_ble_eq_true rfl) rfl fun hlen => ?_
    repeat' (first | (simp -dsimp only [↓reduceIte, go_sem, hl1]) | (refine arr_intro fun _ => ?_) | (refine later_intro ⟨keeps_nil, ?_⟩) | (refine later_intro ⟨keeps_refl, ?_⟩) | (with_reducible refine keeps_go ?_ ?_; focus (first | (simp [keeps_cons, keeps_none, objs_app, objs_app0]; done) | (simp only [keeps_cons, keeps_none, objs_app0, objs_app, and_true]; first | rfl | exact ⟨rfl, rfl⟩ | exact ⟨rfl, rfl, rfl⟩))) | (with_reducible refine (And.intro (a := keeps _ _ _) ?_ ?_); focus (first | (simp [keeps_cons, keeps_none, objs_app, objs_app0]; done) | (simp only [keeps_cons, keeps_none, objs_app0, objs_app, and_true]; first | rfl | exact ⟨rfl, rfl⟩ | exact ⟨rfl, rfl, rfl⟩))) | (refine both_ways ?_ ?_) | (rw [wrap_i64 (by omega) (by omega)]) | (refine guardV_split (fun h => ?_) (fun h => ?_) <;> (try rw [h]) <;> (try simp at h) <;> (try (exfalso; omega))))
    refine awp_rounds (fun (i : Nat) τ s => s = σ ∧ i ≤ l.length ∧ (∀ m < i, ∀ y, l[m]? = some y → y.x.blocks.length ≤ 40 ∧ y.x.names.length ≤ 80 ∧ y.x.nodes.length ≤ 80) ∧ τ 0 = .slice tk (l.map L21.leafV) ∧ τ 3 = .int .i64 i) (fun i => l.length - i) 0 ?_ ?_
    · refine ⟨rfl, by omega, fun m hm => absurd hm (by omega), ?_, ?_⟩ <;> (try simp only [go_sem]) <;> (try rfl)
    · rintro i τ s ⟨rfl, hi, hno, t0, t3⟩
      by_cases hib : i < l.length
      · have hlt1 : (i : Int) < l.length := by omega
        have hyi : l[i]? = some l[i] := List.getElem?_eq_getElem hib
        generalize l[i] = y at hyi
        have w1 : IntKind.i64.wrap ((i : Int) + 1) = (i : Int) + 1 := wrap_i64 (by omega) (by omega)
        have bad : ¬ (y.x.blocks.length ≤ 40 ∧ y.x.names.length ≤ 80 ∧ y.x.nodes.length ≤ 80) → K (.bool false) s := fun h => hF (fun q => h (q.2 y.x (List.mem_map.2 ⟨y, List.mem_of_getElem? hyi, rfl⟩)))
        by_cases h1 : y.x.blocks.length ≤ 40
        · have g1 : ¬ (40 : Int) < y.x.blocks.length := by omega
          by_cases h2 : y.x.names.length ≤ 80
          · have g2 : ¬ (80 : Int) < y.x.names.length := by omega
            by_cases h3 : y.x.nodes.length ≤ 80
            · have g3 : ¬ (80 : Int) < y.x.nodes.length := by omega
              repeat' (first | (simp -dsimp only [↓reduceIte, go_sem, t0, t3, hlt1, w1, g1, g2, g3, L21.leafV]) | (refine arr_intro fun _ => ?_) | (refine later_intro ⟨keeps_nil, ?_⟩) | (refine later_intro ⟨keeps_refl, ?_⟩) | (with_reducible refine keeps_go ?_ ?_; focus (first | (simp [keeps_cons, keeps_none, objs_app, objs_app0]; done) | (simp only [keeps_cons, keeps_none, objs_app0, objs_app, and_true]; first | rfl | exact ⟨rfl, rfl⟩ | exact ⟨rfl, rfl, rfl⟩))) | (with_reducible refine (And.intro (a := keeps _ _ _) ?_ ?_); focus (first | (simp [keeps_cons, keeps_none, objs_app, objs_app0]; done) | (simp only [keeps_cons, keeps_none, objs_app0, objs_app, and_true]; first | rfl | exact ⟨rfl, rfl⟩ | exact ⟨rfl, rfl, rfl⟩))) | (refine both_ways ?_ ?_) | (rw [wrap_i64 (by omega) (by omega)]) | (refine guardV_split (fun h => ?_) (fun h => ?_) <;> (try rw [h]) <;> (try simp at h) <;> (try (exfalso; omega))) | (refine nth_get hyi ?_))
              ((first | refine later_intro ⟨i + 1, by omega, ?_⟩ | refine ⟨i + 1, by omega, ?_⟩); (repeat' with_reducible apply And.intro); all_goals (first | omega | (simp only [go_sem, t0, t3, w1]; done) | rfl | assumption | (simp only [go_sem, t0, t3, w1]; rfl) | skip))
              intro m hm z hz
              by_cases e : m = i
              · subst e; rw [hyi] at hz; cases hz; exact ⟨h1, h2, h3⟩
              · exact hno m (by omega) z hz
            · have g3 : (80 : Int) < y.x.nodes.length := by omega
              repeat' (first | (simp -dsimp only [↓reduceIte, go_sem, t0, t3, hlt1, w1, g1, g2, g3, L21.leafV]) | (refine arr_intro fun _ => ?_) | (refine later_intro ⟨keeps_nil, ?_⟩) | (refine later_intro ⟨keeps_refl, ?_⟩) | (with_reducible refine keeps_go ?_ ?_; focus (first | (simp [keeps_cons, keeps_none, objs_app, objs_app0]; done) | (simp only [keeps_cons, keeps_none, objs_app0, objs_app, and_true]; first | rfl | exact ⟨rfl, rfl⟩ | exact ⟨rfl, rfl, rfl⟩))) | (with_reducible refine (And.intro (a := keeps _ _ _) ?_ ?_); focus (first | (simp [keeps_cons, keeps_none, objs_app, objs_app0]; done) | (simp only [keeps_cons, keeps_none, objs_app0, objs_app, and_true]; first | rfl | exact ⟨rfl, rfl⟩ | exact ⟨rfl, rfl, rfl⟩))) | (refine both_ways ?_ ?_) | (rw [wrap_i64 (by omega) (by omega)]) | (refine guardV_split (fun h => ?_) (fun h => ?_) <;> (try rw [h]) <;> (try simp at h) <;> (try (exfalso; omega))) | (refine nth_get hyi ?_))
              exact bad (fun q => h3 q.2.2)
          · have g2 : (80 : Int) < y.x.names.length := by omega
            repeat' (first | (simp -dsimp only [↓reduceIte, go_sem, t0, t3, hlt1, w1, g1, g2, L21.leafV]) | (refine arr_intro fun _ => ?_) | (refine later_intro ⟨keeps_nil, ?_⟩) | (refine later_intro ⟨keeps_refl, ?_⟩) | (with_reducible refine keeps_go ?_ ?_; focus (first | (simp [keeps_cons, keeps_none, objs_app, objs_app0]; done) | (simp only [keeps_cons, keeps_none, objs_app0, objs_app, and_true]; first | rfl | exact ⟨rfl, rfl⟩ | exact ⟨rfl, rfl, rfl⟩))) | (with_reducible refine (And.intro (a := keeps _ _ _) ?_ ?_); focus (first | (simp [keeps_cons, keeps_none, objs_app, objs_app0]; done) | (simp only [keeps_cons, keeps_none, objs_app0, objs_app, and_true]; first | rfl | exact ⟨rfl, rfl⟩ | exact ⟨rfl, rfl, rfl⟩))) | (refine both_ways ?_ ?_) | (rw [wrap_i64 (by omega) (by omega)]) | (refine guardV_split (fun h => ?_) (fun h => ?_) <;> (try rw [h]) <;> (try simp at h) <;> (try (exfalso; omega))) | (refine nth_get hyi ?_))
            exact bad (fun q => h2 q.2.1)
        · have g1 : (40 : Int) < y.x.blocks.length := by omega
          repeat' (first | (simp -dsimp only [↓reduceIte, go_sem, t0, t3, hlt1, w1, g1, L21.leafV]) | (refine arr_intro fun _ => ?_) | (refine later_intro ⟨keeps_nil, ?_⟩) | (refine later_intro ⟨keeps_refl, ?_⟩) | (with_reducible refine keeps_go ?_ ?_; focus (first | (simp [keeps_cons, keeps_none, objs_app, objs_app0]; done) | (simp only [keeps_cons, keeps_none, objs_app0, objs_app, and_true]; first | rfl | exact ⟨rfl, rfl⟩ | exact ⟨rfl, rfl, rfl⟩))) | (with_reducible refine (And.intro (a := keeps _ _ _) ?_ ?_); focus (first | (simp [keeps_cons, keeps_none, objs_app, objs_app0]; done) | (simp only [keeps_cons, keeps_none, objs_app0, objs_app, and_true]; first | rfl | exact ⟨rfl, rfl⟩ | exact ⟨rfl, rfl, rfl⟩))) | (refine both_ways ?_ ?_) | (rw [wrap_i64 (by omega) (by omega)]) | (refine guardV_split (fun h => ?_) (fun h => ?_) <;> (try rw [h]) <;> (try simp at h) <;> (try (exfalso; omega))) | (refine nth_get hyi ?_))
          exact bad (fun q => h1 q.1)
      · obtain rfl : i = l.length := by omega
        have hlt1 : ¬ ((l.length : Nat) : Int) < l.length := by omega
        repeat' (first | (simp -dsimp only [↓reduceIte, go_sem, t0, t3, hlt1]) | (refine arr_intro fun _ => ?_) | (refine later_intro ⟨keeps_nil, ?_⟩) | (refine later_intro ⟨keeps_refl, ?_⟩) | (with_reducible refine keeps_go ?_ ?_; focus (first | (simp [keeps_cons, keeps_none, objs_app, objs_app0]; done) | (simp only [keeps_cons, keeps_none, objs_app0, objs_app, and_true]; first | rfl | exact ⟨rfl, rfl⟩ | exact ⟨rfl, rfl, rfl⟩))) | (with_reducible refine (And.intro (a := keeps _ _ _) ?_ ?_); focus (first | (simp [keeps_cons, keeps_none, objs_app, objs_app0]; done) | (simp only [keeps_cons, keeps_none, objs_app0, objs_app, and_true]; first | rfl | exact ⟨rfl, rfl⟩ | exact ⟨rfl, rfl, rfl⟩))) | (refine both_ways ?_ ?_) | (rw [wrap_i64 (by omega) (by omega)]) | (refine guardV_split (fun h => ?_) (fun h => ?_) <;> (try rw [h]) <;> (try simp at h) <;> (try (exfalso; omega))))
        refine hT ⟨by rw [List.length_map]; exact hl, fun x hx => ?_⟩
        obtain ⟨y, hy, rfl⟩ := List.mem_map.1 hx
        obtain ⟨m, hm⟩ := List.mem_iff_getElem?.1 hy
        exact hno m (List.getElem?_eq_some_iff.1 hm).1 y hm
  · have hl1 : (40 : Int) < l.length := by omega
    refine tcalls_walk Try.f8 _ [.tmp 2] Try.func8 rfl rfl rfl mixed (Nat.le_of_ble_eq_true rfl) rfl fun hlen => ?_
    repeat' (first | (simp -dsimp only [↓reduceIte, go_sem, hl1]) | (refine arr_intro fun _ => ?_) | (refine later_intro ⟨keeps_nil, ?_⟩) | (refine later_intro ⟨keeps_refl, ?_⟩) | (with_reducible refine keeps_go ?_ ?_; focus (first | (simp [keeps_cons, keeps_none, objs_app, objs_app0]; done) | (simp only [keeps_cons, keeps_none, objs_app0, objs_app, and_true]; first | rfl | exact ⟨rfl, rfl⟩ | exact ⟨rfl, rfl, rfl⟩))) | (with_reducible refine (And.intro (a := keeps _ _ _) ?_ ?_); focus (first | (simp [keeps_cons, keeps_none, objs_app, objs_app0]; done) | (simp only [keeps_cons, keeps_none, objs_app0, objs_app, and_true]; first | rfl | exact ⟨rfl, rfl⟩ | exact ⟨rfl, rfl, rfl⟩))) | (refine both_ways ?_ ?_) | (rw [wrap_i64 (by omega) (by omega)]) | (refine guardV_split (fun h => ?_) (fun h => ?_) <;> (try rw [h]) <;> (try simp at h) <;> (try (exfalso; omega))))
    exact hF (fun q => hl (by have := q.1; rwa [List.length_map] at this))
theorem same31_c {a : List Shp} {ta tb : Tk} (hl : a.length ≤ 9000) (hK : K (.bool true) σ) : TCalls Try.prog 12 [.slice ta (a.map shpV), .slice tb (a.map shpV)] σ K := by
  refine tcalls_walk Try.f12 _ [.tmp 4] Try.func12 rfl rfl rfl mixed (Nat.le_of_ble_eq_true rfl) rfl fun hlen => ?_
  repeat' (first | (simp -dsimp only [↓reduceIte, go_sem]) | (refine arr_intro fun _ => ?_) | (refine later_intro ⟨keeps_nil, ?_⟩) | (refine later_intro ⟨keeps_refl, ?_⟩) | (with_reducible refine keeps_go ?_ ?_; focus (first | (simp [keeps_cons, keeps_none, objs_app, objs_app0]; done) | (simp only [keeps_cons, keeps_none, objs_app0, objs_app, and_true]; first | rfl | exact ⟨rfl, rfl⟩ | exact ⟨rfl, rfl, rfl⟩))) | (with_reducible refine (And.intro (a := keeps _ _ _) ?_ ?_); focus (first | (simp [keeps_cons, keeps_none, objs_app, objs_app0]; done) | (simp only [keeps_cons, keeps_none, objs_app0, objs_app, and_true]; first | rfl | exact ⟨rfl, rfl⟩ | exact ⟨rfl, rfl, rfl⟩))) | (refine both_ways ?_ ?_) | (rw [wrap_i64 (by omega) (by omega)]) | (refine guardV_split (fun h => ?_) (fun h => ?_) <;> (try rw [h]) <;> (try simp at h) <;> (try (exfalso; omega))))
  refine awp_rounds (fun (i : Nat) τ s => s = σ ∧ i ≤ a.length ∧ τ 0 = .slice ta (a.map shpV) ∧ τ 1 = .slice tb (a.map shpV) ∧ τ 5 = .int .i64 i) (fun i => a.length - i) 0 ?_ ?_
  · refine ⟨rfl, by omega, ?_, ?_, ?_⟩ <;> (try simp only [go_sem]) <;> (try rfl)
  · rintro i τ s ⟨rfl, hi, t0, t1, t5⟩
    by_cases hib : i < a.length
    · have hlt1 : (i : Int) < a.length := by omega
      have hyi : a[i]? = some a[i] := List.getElem?_eq_getElem hib
      generalize a[i] = y at hyi
      have w1 : IntKind.i64.wrap ((i : Int) + 1) = (i : Int) + 1 := wrap_i64 (by omega) (by omega)
      repeat' (first | (simp -dsimp only [↓reduceIte, go_sem, t0, t1, t5, hlt1, w1, bin_shp_neq]) | (refine arr_intro fun _ => ?_) | (refine later_intro ⟨keeps_nil, ?_⟩) | (refine later_intro ⟨keeps_refl, ?_⟩) | (with_reducible refine keeps_go ?_ ?_; focus (first | (simp [keeps_cons, keeps_none, objs_app, objs_app0]; done) | (simp only [keeps_cons, keeps_none, objs_app0, objs_app, and_true]; first | rfl | exact ⟨rfl, rfl⟩ | exact ⟨rfl, rfl, rfl⟩))) | (with_reducible refine (And.intro (a := keeps _ _ _) ?_ ?_); focus (first | (simp [keeps_cons, keeps_none, objs_app, objs_app0]; done) | (simp only [keeps_cons, keeps_none, objs_app0, objs_app, and_true]; first | rfl | exact ⟨rfl, rfl⟩ | exact ⟨rfl, rfl, rfl⟩))) | (refine both_ways ?_ ?_) | (rw [wrap_i64 (by omega) (by omega)]) | (refine guardV_split (fun h => ?_) (fun h => ?_) <;> (try rw [h]) <;> (try simp at h) <;> (try (exfalso; omega))) | (with_reducible refine awp_drawS (id := 6) [0, 1, 2, 3, 4, 5, 6, 7, 8] (by kernel_rfl) ?_) | (refine nth_get hyi ?_))
      ((first | refine later_intro ⟨i + 1, by omega, ?_⟩ | refine ⟨i + 1, by omega, ?_⟩); (repeat' with_reducible apply And.intro); all_goals (first | omega | (simp only [go_sem, t0, t1, t5, w1]; done) | rfl | assumption | (simp only [go_sem, t0, t1, t5, w1]; rfl) | skip))
    · obtain rfl : i = a.length := by omega
      have hlt1 : ¬ ((a.length : Nat) : Int) < a.length := by omega
      repeat' (first | (simp -dsimp only [↓reduceIte, go_sem, t0, t1, t5, hlt1]) | (refine arr_intro fun _ => ?_) | (refine later_intro ⟨keeps_nil, ?_⟩) | (refine later_intro ⟨keeps_refl, ?_⟩) | (with_reducible refine keeps_go ?_ ?_; focus (first | (simp [keeps_cons, keeps_none, objs_app, objs_app0]; done) | (simp only [keeps_cons, keeps_none, objs_app0, objs_app, and_true]; first | rfl | exact ⟨rfl, rfl⟩ | exact ⟨rfl, rfl, rfl⟩))) | (with_reducible refine (And.intro (a := keeps _ _ _) ?_ ?_); focus (first | (simp [keeps_cons, keeps_none, objs_app, objs_app0]; done) | (simp only [keeps_cons, keeps_none, objs_app0, objs_app, and_true]; first | rfl | exact ⟨rfl, rfl⟩ | exact ⟨rfl, rfl, rfl⟩))) | (refine both_ways ?_ ?_) | (rw [wrap_i64 (by omega) (by omega)]) | (refine guardV_split (fun h => ?_) (fun h => ?_) <;> (try rw [h]) <;> (try simp at h) <;> (try (exfalso; omega))))
      exact hK
theorem built84 : Built Try.prog 84 = True := eq_true (by unfold Built; rw [Try.underlying84]; decide +kernel)
theorem E22 : ElemT Try.prog 22 84 6 96 := ⟨rfl, by kernel_rfl, by kernel_rfl, ⟨_, of_eq_true L21.zt46⟩, by decide⟩
attribute [local go_sem] built84
def lf1 : Leaf := ⟨1, 1, 0, [], [], []⟩
def lf1a : Leaf := ⟨1, 1, 0, [], [[97]], [2]⟩
def lf2 : Leaf := ⟨2, 2, 0, [], [], []⟩
theorem right_lf1 : lf1.Right := ⟨by decide, by decide, .inr ⟨rfl, fun i s h => by simp [lf1] at h, fun n h => by simp [lf1] at h, rfl, rfl, rfl⟩⟩
theorem right_lf1a : lf1a.Right := ⟨by decide, by decide, .inr ⟨rfl, fun i s h => by
  have : i = 0 := by have := (List.getElem?_eq_some_iff.1 h).1; simp [lf1a] at this; exact this
  subst this
  simp [lf1a] at h; subst h
  exact ⟨by decide, fun t h0 => absurd h0 (by decide)⟩, fun n h => by simp [lf1a] at h; subst h; decide, rfl, rfl, rfl⟩⟩
theorem right_lf2 : lf2.Right := ⟨by decide, by decide, .inl ⟨rfl, fun n h => by simp [lf2] at h, by decide, by decide, by decide, rfl, rfl⟩⟩
theorem tabok0 : TabOk [lf1] := by
  have hT : L21.Table [lf1] := fun i x hx => by
    have : i = 0 := by have := (List.getElem?_eq_some_iff.1 hx).1; simp at this; exact this
    subst this
    simp at hx; subst hx
    exact ⟨right_lf1, fun y h0 => absurd h0 (by decide)⟩
  have hf : FewL [lf1] := ⟨by decide, by decide⟩
  refine ⟨hT, ?_, ⟨⟨_, rfl, rfl, rfl⟩, ⟨?_, ?_⟩, ?_, ?_, ?_⟩⟩
  · rw [← leafS_G hT hf]; decide +kernel
  · simp [Deep, kids, fnd, gN, nodeOf, lf1]
  · simp [U, kids, fnd, gN, nodeOf, lf1]
  · intro x hx hn; simp at hx; subst hx; exact absurd rfl hn
  · decide +kernel
  · decide +kernel
theorem tabok1 : TabOk [lf1a, lf2] := by
  have hT : L21.Table [lf1a, lf2] := fun i x hx => by
    have : i = 0 ∨ i = 1 := by have := (List.getElem?_eq_some_iff.1 hx).1; simp at this; omega
    rcases this with rfl | rfl
    · simp at hx; subst hx
      exact ⟨right_lf1a, fun y h0 => absurd h0 (by decide)⟩
    · simp at hx; subst hx
      exact ⟨right_lf2, fun y h0 hy => by simp at hy; subst hy; decide⟩
  have hf : FewL [lf1a, lf2] := ⟨by decide, by decide⟩
  refine ⟨hT, ?_, ⟨⟨_, rfl, rfl, rfl⟩, ⟨?_, ?_⟩, ?_, ?_, ?_⟩⟩
  · rw [← leafS_G hT hf]; decide +kernel
  · simp [Deep, kids, fnd, gN, nodeOf, lf1a, lf2]
  · simp [U, kids, fnd, gN, nodeOf, lf1a, lf2, L31.isD]
  · intro x hx hn
    simp at hx
    rcases hx with rfl | rfl
    · exact absurd rfl hn
    · simp [U, kids, fnd, gN, nodeOf, lf1a, lf2]
  · decide +kernel
  · decide +kernel
theorem chg_awake : chg 0 1 [lf1] [lf1a, lf2] tch0 = ([putS 0 0 (byt [lf1a, lf2]).length, subS 0 1 0], 0) := by
  unfold chg
  rw [if_pos ⟨tabok0, tabok1⟩]
  have : chL 0 [lf1] tch0 [lf1a, lf2] [lf1a, lf2].length = some ([], -1) := rfl
  rw [this]
  rfl
theorem awake31_c (hK : ∀ s', Ext σ s' → K (.bool true) s') : TCalls Try.prog 9 [] σ K := by
  have h1 : FewL ([⟨lf1, .full, .full, .full⟩].map fun y : TL => y.x) := ⟨by decide, by decide⟩
  have h2 : FewL ([⟨lf1a, .full, .full, .full⟩, ⟨lf2, .full, .full, .full⟩].map fun y : TL => y.x) := ⟨by decide, by decide⟩
  have e9 : smallS 9 3 = ⟨9, 4⟩ := by unfold smallS; rw [if_pos rfl]; unfold shpOf; congr 1; decide +kernel
  refine tcalls_walk Try.f9 _ [.tmp 0] Try.func9 rfl rfl rfl mixed (Nat.le_of_ble_eq_true rfl) rfl fun hlen => ?_
  repeat' (first | (simp -dsimp only [↓reduceIte, go_sem]) | (refine arr_intro fun _ => ?_) | (refine later_intro ⟨keeps_nil, ?_⟩) | (refine later_intro ⟨keeps_refl, ?_⟩) | (with_reducible refine keeps_go ?_ ?_; focus (first | (simp [keeps_cons, keeps_none, objs_app, objs_app0]; done) | (simp only [keeps_cons, keeps_none, objs_app0, objs_app, and_true]; first | rfl | exact ⟨rfl, rfl⟩ | exact ⟨rfl, rfl, rfl⟩))) | (with_reducible refine (And.intro (a := keeps _ _ _) ?_ ?_); focus (first | (simp [keeps_cons, keeps_none, objs_app, objs_app0]; done) | (simp only [keeps_cons, keeps_none, objs_app0, objs_app, and_true]; first | rfl | exact ⟨rfl, rfl⟩ | exact ⟨rfl, rfl, rfl⟩))) | (refine both_ways ?_ ?_) | (rw [wrap_i64 (by omega) (by omega)]) | (refine guardV_split (fun h => ?_) (fun h => ?_) <;> (try rw [h]) <;> (try simp at h) <;> (try (exfalso; omega))) | (refine build_slice L21.E29 rfl (by decide) (by intro v hv; simp at hv; try (subst hv; simp [go_sem])) ?_) | (refine build_slice L21.E44 rfl (by decide) (by intro v hv; simp at hv; try (subst hv; simp [go_sem])) ?_) | (refine build_slice E22 rfl (by decide) (by intro v hv; simp at hv; rcases hv with rfl | rfl <;> simp [go_sem]) ?_))
  refine change_c (old := [⟨lf1, .full, .full, .full⟩]) (l := [⟨lf1a, .full, .full, .full⟩, ⟨lf2, .full, .full, .full⟩]) (t := tch0) ⟨by decide, by decide⟩ ⟨by decide, by decide⟩ h1 h2 (fun s' tk hE => ?_)
  have ec : chg 0 1 ([⟨lf1, .full, .full, .full⟩].map fun y : TL => y.x) ([⟨lf1a, .full, .full, .full⟩, ⟨lf2, .full, .full, .full⟩].map fun y : TL => y.x) tch0 = ([putS 0 0 (byt [lf1a, lf2]).length, subS 0 1 0], 0) := chg_awake
  rw [ec]
  have k0 : (putS 0 0 (byt [lf1a, lf2]).length).kind = 4 := rfl
  have k1 : (subS 0 1 0).kind = 1 := rfl
  have d9 : decide (({ kind := 9, size := 4 } : Shp) = { kind := 9, size := 4 }) = true := by simp
  repeat' (first | (simp -dsimp only [↓reduceIte, go_sem, e9, bin_shp_eql, k0, k1, d9]) | (refine arr_intro fun _ => ?_) | (refine later_intro ⟨keeps_nil, ?_⟩) | (refine later_intro ⟨keeps_refl, ?_⟩) | (with_reducible refine keeps_go ?_ ?_; focus (first | (simp [keeps_cons, keeps_none, objs_app, objs_app0]; done) | (simp only [keeps_cons, keeps_none, objs_app0, objs_app, and_true]; first | rfl | exact ⟨rfl, rfl⟩ | exact ⟨rfl, rfl, rfl⟩))) | (with_reducible refine (And.intro (a := keeps _ _ _) ?_ ?_); focus (first | (simp [keeps_cons, keeps_none, objs_app, objs_app0]; done) | (simp only [keeps_cons, keeps_none, objs_app0, objs_app, and_true]; first | rfl | exact ⟨rfl, rfl⟩ | exact ⟨rfl, rfl, rfl⟩))) | (refine both_ways ?_ ?_) | (rw [wrap_i64 (by omega) (by omega)]) | (refine guardV_split (fun h => ?_) (fun h => ?_) <;> (try rw [h]) <;> (try simp at h) <;> (try (exfalso; omega))) | (refine small31_c ⟨by decide, by decide⟩ ?_) | (refine nth_get (i := 0) (y := shpV (putS 0 0 (byt [lf1a, lf2]).length)) rfl ?_) | (refine nth_get (i := 1) (y := shpV (subS 0 1 0)) rfl ?_))
  all_goals first
    | exact hK _ hE
    | trace_state
end
structure Trn where
  me : Int
  n : Int
  old : List TL
  l : List TL
  t : Tch
def trnPs (t0 t1 : Tk) (x : Trn) : List AV := [.int .i64 x.me, .int .i64 x.n, .slice t0 (x.old.map L21.leafV), .slice t1 (x.l.map L21.leafV), .agg (tchPs x.t)]
abbrev trnV (t0 t1 : Tk) (x : Trn) : AV := .agg (trnPs t0 t1 x)
theorem trnPs_0 {t0 t1 : Tk} {x : Trn} : (trnPs t0 t1 x)[0]? = some (.int .i64 x.me) := nr rfl
theorem trnAt_0 {t0 t1 : Tk} {x : Trn} {v : AV} : partIs Try.prog 26 (trnPs t0 t1 x) 0 v = fits Try.prog 3 v := by rw [partIs_of (o := 0) (T := 3) (by kernel_rfl)]; simp [trnPs, AV.sizes, AV.size]
theorem trnPs_1 {t0 t1 : Tk} {x : Trn} : (trnPs t0 t1 x)[1]? = some (.int .i64 x.n) := nr rfl
theorem trnAt_1 {t0 t1 : Tk} {x : Trn} {v : AV} : partIs Try.prog 26 (trnPs t0 t1 x) 1 v = fits Try.prog 3 v := by rw [partIs_of (o := 1) (T := 3) (by kernel_rfl)]; simp [trnPs, AV.sizes, AV.size]
theorem trnPs_2 {t0 t1 : Tk} {x : Trn} : (trnPs t0 t1 x)[2]? = some (.slice t0 (x.old.map L21.leafV)) := nr rfl
theorem trnAt_2 {t0 t1 : Tk} {x : Trn} {v : AV} : partIs Try.prog 26 (trnPs t0 t1 x) 2 v = fits Try.prog 22 v := by rw [partIs_of (o := 2) (T := 22) (by kernel_rfl)]; simp [trnPs, AV.sizes, AV.size]
theorem trnPs_3 {t0 t1 : Tk} {x : Trn} : (trnPs t0 t1 x)[3]? = some (.slice t1 (x.l.map L21.leafV)) := nr rfl
theorem trnAt_3 {t0 t1 : Tk} {x : Trn} {v : AV} : partIs Try.prog 26 (trnPs t0 t1 x) 3 v = fits Try.prog 22 v := by rw [partIs_of (o := 3) (T := 22) (by kernel_rfl)]; simp [trnPs, AV.sizes, AV.size]
theorem trnPs_4 {t0 t1 : Tk} {x : Trn} : (trnPs t0 t1 x)[4]? = some (.agg (tchPs x.t)) := nr rfl
theorem trnAt_4 {t0 t1 : Tk} {x : Trn} {v : AV} : partIs Try.prog 26 (trnPs t0 t1 x) 4 v = fits Try.prog 24 v := by rw [partIs_of (o := 4) (T := 24) (by kernel_rfl)]; simp [trnPs, AV.sizes, AV.size]
theorem chg_len {me n : Int} {old l : List Leaf} {t : Tch} (h : FewL l) : (chg me n old l t).1.length ≤ 9000 := by
  unfold chg
  split
  · split
    · rename_i st hst
      have h1 := chL_len (fun x hx => (h.2 x hx).1) hst
      have h2 := h.1
      simp only [chE, List.length_append, List.length_cons, List.length_nil]
      omega
    · simp
  · simp
section
variable {σ : AST} {K : AV → AST → Prop}
theorem awake31_d (hK : K (.bool true) σ) : TCalls Try.prog 9 [] σ K := by
  refine TCalls.drop ?_
  exact awake31_c fun s' h => ⟨h, rfl, hK⟩
end
end Go.Aff.L10

