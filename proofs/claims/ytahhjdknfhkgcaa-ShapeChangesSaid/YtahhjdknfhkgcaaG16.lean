import Derived.Test.YtahhjdknfhkgcaaG15

set_option linter.unusedSimpArgs false
set_option linter.unusedVariables false

namespace Go.Aff.L10
open Go.Proofs Go.Aff Go.Aff.L01 Classical
set_option maxRecDepth 20000
attribute [local go_sem] push_app app_app length_app cellAt_app cellAt_app0 set_app set_app0 objs_app objs_app0 List.cons_append List.nil_append List.length_cons List.length_nil List.getElem?_cons_zero List.getElem?_cons_succ List.set_cons_zero List.set_cons_succ List.length_map
attribute [-go_sem] cellAt_new
attribute [-simp] List.length_flatMap
attribute [local go_sem] Try.underlying9 Try.underlying50 subPs_0 subAt_0 subSet_0 subPs_1 subAt_1 subSet_1 subPs_2 subAt_2 subSet_2 sizes_sub shapes_sub fits_sub zero_sub zt_sub built_sub
attribute [local go_sem] fits3 fits9 fits31
attribute [local go_sem ↓] blockQ_exit2
attribute [local go_sem] Try.underlying43 fits43
attribute [local go_sem] L21.zt46 L21.zero46 L21.size_leaf L21.agg_leaf L21.known_leaf L21.fits46 L21.p46_0 L21.p46_1 L21.p46_3 L21.p46_4 L21.p46_5 Try.underlying84 Try.underlying22 shpPs_0 shpAt_0 shpSet_0 shpPs_1 shpAt_1 shpSet_1 sizes_shp fits_shp zero_shp zt_shp built_shp Try.underlying58
attribute [local go_sem] tchPs_0 tchAt_0 tchPs_1 tchAt_1 tchPs_2 tchAt_2 sizes_tch fits_tch zero_tch zt_tch built_tch Try.underlying24
open Go.Aff.L31
attribute [local go_sem] fits22 Try.underlying29
def atO (old : List Leaf) (x : Leaf) (i : Nat) : Nat → Int
  | 0 => -1
  | j + 1 => match old[j]? with
    | some y => if y.num = x.num ∧ i < y.blocks.length ∧ longI y i = longI x i then y.blocks.getD i 0 else atO old x i j
    | none => atO old x i j
theorem file_of {x : Leaf} {i : Nat} (h : x.Right) (hi : i < x.blocks.length) : x.kind = 2 := by
  rcases h.2.2 with ⟨a, _⟩ | ⟨_, q⟩
  · exact a
  · have := q.2.2.2.1; rw [this] at hi; simp at hi
theorem twin_of {x y : Leaf} {i : Nat} (hx : x.Right) (hi : i < x.blocks.length) (hy : y.Right) : (y.num = x.num ∧ i < y.blocks.length ∧ longI y i = longI x i) ↔ Twin x i y := by
  constructor
  · rintro ⟨a, b, c⟩; exact ⟨a, by rw [file_of hx hi, file_of hy b], b, c⟩
  · rintro ⟨a, _, b, c⟩; exact ⟨a, b, c⟩
theorem tab_lt {l : List Leaf} (h : L21.Table l) : ∀ (d : Nat) {i : Nat} {x y : Leaf}, l[i]? = some x → l[i + 1 + d]? = some y → x.num < y.num
  | 0, i, x, y, hx, hy => (h (i + 1) y hy).2 x (by omega) hx
  | d + 1, i, x, y, hx, hy => by
    have hl := (List.getElem?_eq_some_iff.1 hy).1
    have hz : l[i + 1 + d]? = some l[i + 1 + d] := List.getElem?_eq_getElem (by omega)
    have h1 := tab_lt h d hx hz
    have h2 := (h (i + 1 + (d + 1)) y hy).2 _ (by omega) (by rw [show i + 1 + (d + 1) - 1 = i + 1 + d by omega]; exact hz)
    omega
theorem tab_inj {l : List Leaf} (h : L21.Table l) {i j : Nat} {x y : Leaf} (hx : l[i]? = some x) (hy : l[j]? = some y) (e : x.num = y.num) : i = j := by
  rcases Nat.lt_trichotomy i j with q | q | q
  · have := tab_lt h (j - i - 1) hx (by rw [show i + 1 + (j - i - 1) = j by omega]; exact hy); omega
  · exact q
  · have := tab_lt h (i - j - 1) hy (by rw [show j + 1 + (i - j - 1) = i by omega]; exact hx); omega
theorem atO_some {old : List Leaf} (hT : L21.Table old) {x : Leaf} {i : Nat} (hx : x.Right) (hi : i < x.blocks.length) : ∀ k, k ≤ old.length → (atO old x i k = -1 ∧ ∀ m < k, ∀ y, old[m]? = some y → ¬ Twin x i y) ∨ ∃ m, m < k ∧ ∃ y, old[m]? = some y ∧ Twin x i y ∧ atO old x i k = y.blocks.getD i 0 ∧ (∀ m' < m, ∀ v, old[m']? = some v → ¬ Twin x i v)
  | 0, _ => .inl ⟨rfl, fun m hm => absurd hm (by omega)⟩
  | k + 1, hk => by
    have hy : old[k]? = some old[k] := List.getElem?_eq_getElem (by omega)
    generalize old[k] = y at hy
    rw [atO, hy]; dsimp only
    have hyr := (hT k y hy).1
    by_cases ht : Twin x i y
    · rw [if_pos ((twin_of hx hi hyr).2 ht)]
      refine .inr ⟨k, by omega, y, hy, ht, rfl, fun m' hm' v hv hv2 => ?_⟩
      have := tab_inj hT hv hy (by rw [hv2.1, ht.1])
      omega
    · rw [if_neg (fun h => ht ((twin_of hx hi hyr).1 h))]
      rcases atO_some hT hx hi k (by omega) with ⟨a, b⟩ | ⟨m, hm, z, a, b, c, d⟩
      · refine .inl ⟨a, fun m hm v hv => ?_⟩
        by_cases e : m = k
        · subst e; rw [hy] at hv; cases hv; exact ht
        · exact b m (by omega) v hv
      · exact .inr ⟨m, by omega, z, a, b, c, d⟩
theorem atO_all {old : List Leaf} (hT : L21.Table old) {x : Leaf} {i : Nat} (hx : x.Right) (hi : i < x.blocks.length) : atO old x i old.length = fromO old x i := by
  rcases atO_some hT hx hi old.length (Nat.le_refl _) with ⟨a, b⟩ | ⟨m, hm, z, a, b, c, d⟩
  · rw [a]
    unfold fromO
    rw [List.find?_eq_none.2]
    intro y hy
    obtain ⟨m, hm⟩ := List.mem_iff_getElem?.1 hy
    simpa using b m (List.getElem?_eq_some_iff.1 hm).1 y hm
  · rw [c, fromO_at a b d]
theorem fromO_ge {old : List Leaf} (hR : ∀ y ∈ old, y.Right) {x : Leaf} {i : Nat} : -1 ≤ fromO old x i := by
  unfold fromO
  split
  · rename_i y hy
    have h1 := List.find?_some hy
    have hm := List.mem_of_find?_eq_some hy
    have h2 : Twin x i y := by simpa using h1
    have hb : y.blocks[i]? = some (y.blocks[i]'h2.2.2.1) := List.getElem?_eq_getElem _
    have := blk_of (hR y hm) _ (List.getElem_mem h2.2.2.1)
    rw [List.getD_eq_getElem?_getD, hb]
    simp only [Option.getD_some]; omega
  · omega
section
variable {σ : AST} {K : AV → AST → Prop}
set_option maxHeartbeats 4000000 in
theorem rchange_c {me n : Int} {old l : List TL} {to tl : Tk} {t : Tch} (hme : Rng me) (hn : Rng n) (hfo : FewL (old.map (·.x))) (hfl : FewL (l.map (·.x)))
    (hK : ∀ s' tk, Ext σ s' → K (.tuple [.slice tk ((chg me n (old.map (·.x)) (l.map (·.x)) t).1.map shpV), .int .i64 (chg me n (old.map (·.x)) (l.map (·.x)) t).2]) s') :
    TCalls Try.prog 11 [.int .i64 me, .int .i64 n, .slice to (old.map L21.leafV), .slice tl (l.map L21.leafV), tchV t] σ K := by
  by_cases hT : TabOk (old.map (·.x)) ∧ TabOk (l.map (·.x))
  · obtain ⟨hTo, hTl⟩ := hT
    refine tcalls_walk Try.f11 _ [.tmp 10, .tmp 11] Try.func11 rfl rfl rfl mixed (Nat.le_of_ble_eq_true rfl) rfl fun hlen => ?_
    repeat' (first | (simp -dsimp only [↓reduceIte, go_sem]) | (refine arr_intro fun _ => ?_) | (refine later_intro ⟨keeps_nil, ?_⟩) | (refine later_intro ⟨keeps_refl, ?_⟩) | (with_reducible refine keeps_go ?_ ?_; focus (first | (simp [keeps_cons, keeps_none, objs_app, objs_app0]; done) | (simp only [keeps_cons, keeps_none, objs_app0, objs_app, and_true]; first | rfl | exact ⟨rfl, rfl⟩ | exact ⟨rfl, rfl, rfl⟩))) | (with_reducible refine (And.intro (a := keeps _ _ _) ?_ ?_); focus (first | (simp [keeps_cons, keeps_none, objs_app, objs_app0]; done) | (simp only [keeps_cons, keeps_none, objs_app0, objs_app, and_true]; first | rfl | exact ⟨rfl, rfl⟩ | exact ⟨rfl, rfl, rfl⟩))) | (refine both_ways ?_ ?_) | (rw [wrap_i64 (by omega) (by omega)]) | (refine guardV_split (fun h => ?_) (fun h => ?_) <;> (try rw [h]) <;> (try simp at h) <;> (try (exfalso; omega))) | (refine may_c hfo (fun _ => ?_) (fun h => absurd hTo h)) | (refine may_c hfl (fun _ => ?_) (fun h => absurd hTl h)))
    have hRo : ∀ y ∈ old, y.x.Right := fun y hy => right_mem hTo.1 hy
    have hRl : ∀ y ∈ l, y.x.Right := fun y hy => right_mem hTl.1 hy
    have hol : old.length ≤ 40 := by have := hfo.1; rwa [List.length_map] at this
    have hll : l.length ≤ 40 := by have := hfl.1; rwa [List.length_map] at this
    have hlb : ∀ y ∈ l, y.x.blocks.length ≤ 40 := fun y hy => (hfl.2 y.x (List.mem_map.2 ⟨y, hy, rfl⟩)).1
    have hob' : ∀ y ∈ old, y.x.blocks.length ≤ 40 := fun y hy => (hfo.2 y.x (List.mem_map.2 ⟨y, hy, rfl⟩)).1
    have hlb' : ∀ x ∈ l.map (·.x), x.blocks.length ≤ 40 := fun x hx => (hfl.2 x hx).1
    have hx0 : Ext σ (σ.app [.cells (tchV t)]) := Ext.app _ _
    have k0 : (σ.app [.cells (tchV t)]).objs[σ.objs.length]? = some (.cells (tchV t)) := objs_app0
    have tbL : ∀ q, 0 ≤ topL (blkL ((l.take q).map (·.x))) 0 ∧ topL (blkL ((l.take q).map (·.x))) 0 ≤ 1099511627777 := fun q => by
      refine ⟨topL_ge _ _, topL_le (by omega) fun b hb => ?_⟩
      rw [← blks_x] at hb
      obtain ⟨y, hy, hb⟩ := List.mem_flatMap.1 hb
      have := blk_of (hRl y (List.mem_of_mem_take hy)) b hb; omega
    refine awp_rounds (fun (i : Nat) τ s => ∃ tb out root, i ≤ l.length ∧ chL me (old.map (·.x)) t (l.map (·.x)) i = some (out, root) ∧ -1 ≤ root ∧ root ≤ 1099511627777 ∧ Gr σ s tb out.length 2 ∧ s.objs[σ.objs.length]? = some (.cells (tchV t)) ∧ τ 0 = .int .i64 me ∧ τ 1 = .int .i64 n ∧ τ 2 = .slice to (old.map L21.leafV) ∧ τ 3 = .slice tl (l.map L21.leafV) ∧ τ 9 = .ptr (some (σ.objs.length, [])) ∧ τ 12 = .slice tb (out.map shpV) ∧ τ 13 = .int .i64 root ∧ τ 14 = .int .i64 (topL (blkL ((l.take i).map (·.x))) 0) ∧ τ 15 = .int .i64 i) (fun i => l.length - i) 0 ?_ ?_
    · refine ⟨.full, [], -1, by omega, rfl, by omega, by omega, Gr.start' hx0, k0, ?_, ?_, ?_, ?_, ?_, ?_, ?_, ?_, ?_⟩ <;> (try simp only [go_sem]) <;> (try rfl)
    · rintro i τ s ⟨tb, out, root, hi, hch, hr1, hr2, hG, hk, t0, t1, t2, t3, t9, t12, t13, t14, t15⟩
      have hol1 := chL_len hlb' hch
      dsimp only at hol1
      by_cases hib : i < l.length
      · have hlt1 : (i : Int) < l.length := by omega
        have hyi : l[i]? = some l[i] := List.getElem?_eq_getElem hib
        have hRy := hRl _ (List.getElem_mem hib)
        have hyb := hlb _ (List.getElem_mem hib)
        generalize l[i] = y at hyi hRy hyb
        have w1 : IntKind.i64.wrap ((i : Int) + 1) = (i : Int) + 1 := wrap_i64 (by omega) (by omega)
        have eM : topL (blkL ((l.take (i + 1)).map (·.x))) 0 = topL y.x.blocks (topL (blkL ((l.take i).map (·.x))) 0) := by
          rw [List.take_add_one, hyi]; unfold blkL; rw [List.map_append, List.flatMap_append, topL_app]; simp
        have hMb := tbL i
        generalize topL (blkL ((l.take i).map (·.x))) 0 = M at t14 eM hMb
        repeat' (first | (simp -dsimp only [↓reduceIte, go_sem, t0, t1, t2, t3, t9, t12, t13, t14, t15, hlt1, L21.leafV]) | (refine arr_intro fun _ => ?_) | (refine later_intro ⟨keeps_nil, ?_⟩) | (refine later_intro ⟨keeps_refl, ?_⟩) | (with_reducible refine keeps_go ?_ ?_; focus (first | (simp [keeps_cons, keeps_none, objs_app, objs_app0]; done) | (simp only [keeps_cons, keeps_none, objs_app0, objs_app, and_true]; first | rfl | exact ⟨rfl, rfl⟩ | exact ⟨rfl, rfl, rfl⟩))) | (with_reducible refine (And.intro (a := keeps _ _ _) ?_ ?_); focus (first | (simp [keeps_cons, keeps_none, objs_app, objs_app0]; done) | (simp only [keeps_cons, keeps_none, objs_app0, objs_app, and_true]; first | rfl | exact ⟨rfl, rfl⟩ | exact ⟨rfl, rfl, rfl⟩))) | (refine both_ways ?_ ?_) | (rw [wrap_i64 (by omega) (by omega)]) | (refine guardV_split (fun h => ?_) (fun h => ?_) <;> (try rw [h]) <;> (try simp at h) <;> (try (exfalso; omega))) | (refine nth_get hyi ?_))
        have hG2 : Gr σ (s.app [.cells (L21.leafV y)]) tb out.length 2 := hG.app
        have hk2 : (s.app [.cells (L21.leafV y)]).objs[σ.objs.length]? = some (.cells (tchV t)) := ext_knownV (Ext.app _ _) hk
        have hy2 : (s.app [.cells (L21.leafV y)]).objs[s.objs.length]? = some (.cells (L21.leafV y)) := objs_app0
        change awp _ _ _ _ (s.app [.cells (L21.leafV y)])
        generalize s.objs.length = j at *
        generalize s.app [.cells (L21.leafV y)] = s2 at hG2 hk2 hy2 ⊢
        refine awp_rounds (fun (k : Nat) τ s => ∃ tb out' root', k ≤ y.x.blocks.length ∧ chB me (old.map (·.x)) t y.x (out, root) k = some (out', root') ∧ -1 ≤ root' ∧ root' ≤ 1099511627777 ∧ Gr σ s tb out'.length 2 ∧ s.objs[σ.objs.length]? = some (.cells (tchV t)) ∧ s.objs[j]? = some (.cells (L21.leafV y)) ∧ τ 0 = .int .i64 me ∧ τ 1 = .int .i64 n ∧ τ 2 = .slice to (old.map L21.leafV) ∧ τ 3 = .slice tl (l.map L21.leafV) ∧ τ 9 = .ptr (some (σ.objs.length, [])) ∧ τ 12 = .slice tb (out'.map shpV) ∧ τ 13 = .int .i64 root' ∧ τ 14 = .int .i64 (topL (y.x.blocks.take k) M) ∧ τ 15 = .int .i64 i ∧ τ 16 = .ptr (some (j, [])) ∧ τ 17 = .int .i64 k) (fun k => y.x.blocks.length - k) 0 ?_ ?_
        · refine ⟨tb, out, root, by omega, rfl, hr1, hr2, hG2, hk2, hy2, ?_, ?_, ?_, ?_, ?_, ?_, ?_, ?_, ?_, ?_, ?_⟩ <;> (try simp only [go_sem, t0, t1, t2, t3, t9, t12, t13, t14, t15]) <;> (try rfl)
        · clear t0 t1 t2 t3 t9 t12 t13 t14 t15 hG hk hG2 hk2 hy2
          rintro k τ s ⟨tb, out', root', hk, hcb, hq1, hq2, hG, hk2, hy2, t0, t1, t2, t3, t9, t12, t13, t14, t15, t16, t17⟩
          have hob := chB_len hcb
          dsimp only at hob
          have c0 := cellAt_known hk2
          have c1 := cellAt_known hy2
          by_cases hkb : k < y.x.blocks.length
          · have hlt2 : (k : Int) < y.x.blocks.length := by omega
            have hbk : y.x.blocks[k]? = some y.x.blocks[k] := List.getElem?_eq_getElem hkb
            have hbb := blk_of hRy _ (List.getElem_mem hkb)
            have hbd : y.x.blocks.getD k 0 = y.x.blocks[k] := by rw [List.getD_eq_getElem?_getD, hbk]; rfl
            generalize y.x.blocks[k] = b at hbk hbb hbd
            have w2 : IntKind.i64.wrap ((k : Int) + 1) = (k : Int) + 1 := wrap_i64 (by omega) (by omega)
            have w3 : IntKind.i64.wrap (b + 1) = b + 1 := wrap_i64 (by omega) (by omega)
            have w4 : IntKind.i64.wrap (32 * (k : Int)) = 32 * (k : Int) := wrap_i64 (by omega) (by omega)
            have hlg := longI_le (sized_of hRy) (i := k) (by omega)
            have w5 : IntKind.i64.wrap (32 * (k : Int) + longI y.x k) = 32 * (k : Int) + longI y.x k := wrap_i64 (by omega) (by omega)
            have e2M : topL (y.x.blocks.take (k + 1)) M = max (topL (y.x.blocks.take k) M) (b + 1) := by rw [List.take_add_one, hbk, topL_app]; rfl
            generalize hh : hadP (old.map (·.x)) y.x k t = h
            have e2 : chB me (old.map (·.x)) t y.x (out, root) (k + 1) = if h = b then some (out', root') else if h = -1 then some (out' ++ [putS me b (longI y.x k)], b + 1) else none := by
              rw [chB, hcb, Option.bind_some, hbd]; dsimp only; rw [hh]
            repeat' (first | (simp -dsimp only [↓reduceIte, go_sem, t0, t1, t2, t3, t9, t12, t13, t14, t15, t16, t17, hlt2, c0, c1, w3, L21.leafV]) | (refine arr_intro fun _ => ?_) | (refine later_intro ⟨keeps_nil, ?_⟩) | (refine later_intro ⟨keeps_refl, ?_⟩) | (with_reducible refine keeps_go ?_ ?_; focus (first | (simp [keeps_cons, keeps_none, objs_app, objs_app0]; done) | (simp only [keeps_cons, keeps_none, objs_app0, objs_app, and_true]; first | rfl | exact ⟨rfl, rfl⟩ | exact ⟨rfl, rfl, rfl⟩))) | (with_reducible refine (And.intro (a := keeps _ _ _) ?_ ?_); focus (first | (simp [keeps_cons, keeps_none, objs_app, objs_app0]; done) | (simp only [keeps_cons, keeps_none, objs_app0, objs_app, and_true]; first | rfl | exact ⟨rfl, rfl⟩ | exact ⟨rfl, rfl, rfl⟩))) | (refine both_ways ?_ ?_) | (rw [wrap_i64 (by omega) (by omega)]) | (refine guardV_split (fun h => ?_) (fun h => ?_) <;> (try rw [h]) <;> (try simp at h) <;> (try (exfalso; omega))) | (refine nth_get hbk ?_))
            generalize hM2 : topL (y.x.blocks.take (k + 1)) M = M2 at e2M
            refine awp_rounds (fun (q : Nat) τ s => q ≤ old.length ∧ Gr σ s tb out'.length 2 ∧ s.objs[σ.objs.length]? = some (.cells (tchV t)) ∧ s.objs[j]? = some (.cells (L21.leafV y)) ∧ τ 0 = .int .i64 me ∧ τ 1 = .int .i64 n ∧ τ 2 = .slice to (old.map L21.leafV) ∧ τ 3 = .slice tl (l.map L21.leafV) ∧ τ 9 = .ptr (some (σ.objs.length, [])) ∧ τ 12 = .slice tb (out'.map shpV) ∧ τ 13 = .int .i64 root' ∧ τ 14 = .int .i64 M2 ∧ τ 15 = .int .i64 i ∧ τ 16 = .ptr (some (j, [])) ∧ τ 17 = .int .i64 k ∧ τ 18 = .int .i64 (atO (old.map (·.x)) y.x k q) ∧ τ 19 = .int .i64 q) (fun q => old.length - q) 0 ?_ ?_
            · refine ⟨by omega, hG, hk2, hy2, ?_, ?_, ?_, ?_, ?_, ?_, ?_, ?_, ?_, ?_, ?_, ?_, ?_⟩ <;> (try simp only [go_sem, t0, t1, t2, t3, t9, t12, t13, t14, t15, t16, t17, e2M]) <;> (try rfl)
            · clear t0 t1 t2 t3 t9 t12 t13 t14 t15 t16 t17 hG hk2 hy2 c0 c1
              rintro q τ s ⟨hq, hG, hk2, hy2, t0, t1, t2, t3, t9, t12, t13, t14, t15, t16, t17, t18, t19⟩
              have c0 := cellAt_known hk2
              have c1 := cellAt_known hy2
              have hjl := (List.getElem?_eq_some_iff.1 hy2).1
              by_cases hqb : q < old.length
              · have hlt3 : (q : Int) < old.length := by omega
                have hzq : old[q]? = some old[q] := List.getElem?_eq_getElem hqb
                have hRz := hRo _ (List.getElem_mem hqb)
                generalize old[q] = z at hzq hRz
                have w6 : IntKind.i64.wrap ((q : Int) + 1) = (q : Int) + 1 := wrap_i64 (by omega) (by omega)
                have a0 : ∀ v p, cellAt (s.app [.cells v]) j p = (L21.leafV y).at p := fun v => cellAt_known (ext_knownV (Ext.app _ _) hy2)
                have e4 : atO (old.map (·.x)) y.x k (q + 1) = if z.x.num = y.x.num ∧ k < z.x.blocks.length ∧ longI z.x k = longI y.x k then z.x.blocks.getD k 0 else atO (old.map (·.x)) y.x k q := by
                  rw [atO, List.getElem?_map, hzq]; rfl
                repeat' (first | (simp -dsimp only [↓reduceIte, go_sem, t0, t1, t2, t3, t9, t12, t13, t14, t15, t16, t17, t18, t19, hlt3, a0, w6, L21.leafV]) | (refine arr_intro fun _ => ?_) | (refine later_intro ⟨keeps_nil, ?_⟩) | (refine later_intro ⟨keeps_refl, ?_⟩) | (with_reducible refine keeps_go ?_ ?_; focus (first | (simp [keeps_cons, keeps_none, objs_app, objs_app0]; done) | (simp only [keeps_cons, keeps_none, objs_app0, objs_app, and_true]; first | rfl | exact ⟨rfl, rfl⟩ | exact ⟨rfl, rfl, rfl⟩))) | (with_reducible refine (And.intro (a := keeps _ _ _) ?_ ?_); focus (first | (simp [keeps_cons, keeps_none, objs_app, objs_app0]; done) | (simp only [keeps_cons, keeps_none, objs_app0, objs_app, and_true]; first | rfl | exact ⟨rfl, rfl⟩ | exact ⟨rfl, rfl, rfl⟩))) | (refine both_ways ?_ ?_) | (rw [wrap_i64 (by omega) (by omega)]) | (refine guardV_split (fun h => ?_) (fun h => ?_) <;> (try rw [h]) <;> (try simp at h) <;> (try (exfalso; omega))) | (refine nth_get hzq ?_) | (with_reducible refine awp_drawS (id := 19) [0, 1, 2, 3, 4, 5, 6, 7, 8, 9, 10, 11, 12, 13, 14, 16, 17, 15, 18, 19, 20] (by kernel_rfl) ?_) | (refine bytes_c (sized_of hRz) (by omega) ?_) | (refine bytes_c (sized_of hRy) (by omega) ?_))
                case refine_1 =>
                  have hcd : z.x.num = y.x.num ∧ k < z.x.blocks.length ∧ longI z.x k = longI y.x k := ⟨‹_›, ‹_›, ‹_›⟩
                  rw [if_pos hcd] at e4
                  have hbz : z.x.blocks[k]? = some (z.x.blocks[k]'hcd.2.1) := List.getElem?_eq_getElem _
                  rw [List.getD_eq_getElem?_getD, hbz, Option.getD_some] at e4
                  generalize z.x.blocks[k]'_ = bz at hbz e4
                  repeat' (first | (simp -dsimp only [↓reduceIte, go_sem, t0, t1, t2, t3, t9, t12, t13, t14, t15, t16, t17, t18, t19, w6]) | (refine arr_intro fun _ => ?_) | (refine later_intro ⟨keeps_nil, ?_⟩) | (refine later_intro ⟨keeps_refl, ?_⟩) | (with_reducible refine keeps_go ?_ ?_; focus (first | (simp [keeps_cons, keeps_none, objs_app, objs_app0]; done) | (simp only [keeps_cons, keeps_none, objs_app0, objs_app, and_true]; first | rfl | exact ⟨rfl, rfl⟩ | exact ⟨rfl, rfl, rfl⟩))) | (with_reducible refine (And.intro (a := keeps _ _ _) ?_ ?_); focus (first | (simp [keeps_cons, keeps_none, objs_app, objs_app0]; done) | (simp only [keeps_cons, keeps_none, objs_app0, objs_app, and_true]; first | rfl | exact ⟨rfl, rfl⟩ | exact ⟨rfl, rfl, rfl⟩))) | (refine both_ways ?_ ?_) | (rw [wrap_i64 (by omega) (by omega)]) | (refine guardV_split (fun h => ?_) (fun h => ?_) <;> (try rw [h]) <;> (try simp at h) <;> (try (exfalso; omega))) | (refine nth_get hbz ?_))
                  ((first | refine later_intro ⟨q + 1, by omega, ?_⟩ | refine ⟨q + 1, by omega, ?_⟩); (repeat' with_reducible apply And.intro); all_goals (first | omega | (simp only [go_sem, t0, t1, t2, t3, t9, t12, t13, t14, t15, t16, t17, t18, t19, e4, w6]; done) | rfl | assumption | (simp only [go_sem, t0, t1, t2, t3, t9, t12, t13, t14, t15, t16, t17, t18, t19, e4, w6]; rfl) | skip))
                  all_goals first
                    | exact hG.app
                    | exact ext_knownV (Ext.app _ _) hk2
                    | exact ext_knownV (Ext.app _ _) hy2
                    | trace_state
                all_goals
                  rw [if_neg (by rintro ⟨z1, z2, z3⟩; first | contradiction | omega)] at e4
                  ((first | refine later_intro ⟨q + 1, by omega, ?_⟩ | refine ⟨q + 1, by omega, ?_⟩); (repeat' with_reducible apply And.intro); all_goals (first | omega | (simp only [go_sem, t0, t1, t2, t3, t9, t12, t13, t14, t15, t16, t17, t18, t19, e4, w6]; done) | rfl | assumption | (simp only [go_sem, t0, t1, t2, t3, t9, t12, t13, t14, t15, t16, t17, t18, t19, e4, w6]; rfl) | skip))
                  all_goals first
                    | exact hG.app
                    | exact ext_knownV (Ext.app _ _) hk2
                    | exact ext_knownV (Ext.app _ _) hy2
                    | trace_state
              · obtain rfl : q = old.length := by omega
                have hlt3 : ¬ ((old.length : Nat) : Int) < old.length := by omega
                have hat : atO (old.map (·.x)) y.x k old.length = fromO (old.map (·.x)) y.x k := by
                  have := atO_all hTo.1 hRy hkb
                  rwa [List.length_map] at this
                rw [hat] at t18
                have hge : -1 ≤ fromO (old.map (·.x)) y.x k := fromO_ge fun z hz => by obtain ⟨w, hw, rfl⟩ := List.mem_map.1 hz; exact hRo w hw
                have hh2 : h = if Touches y.x k t then -1 else fromO (old.map (·.x)) y.x k := by rw [← hh]; rfl
                generalize fromO (old.map (·.x)) y.x k = v at t18 hge hh2
                have og : ∀ (a : AST) m e (t : Tk), (growS a t m e).objs = a.objs := fun a m e t => growS_objs
                have hpb : Rng b := ⟨by omega, by omega⟩
                have hpl : Rng (longI y.x k) := ⟨by omega, by omega⟩
                by_cases ht : Touches y.x k t
                · rw [if_pos ht] at hh2
                  rw [if_neg (by omega), if_pos hh2] at e2
                  obtain ⟨z1, z2, z3⟩ := ht
                  have z1 : (y.x.num == t.node) = true := by simpa using z1
                  repeat' (first | (simp -dsimp only [↓reduceIte, go_sem, t0, t1, t2, t3, t9, t12, t13, t14, t15, t16, t17, t18, t19, hlt3, c0, c1, w2, w3, w4, w5, z1, z2, z3, L21.leafV]) | (refine arr_intro fun _ => ?_) | (refine later_intro ⟨keeps_nil, ?_⟩) | (refine later_intro ⟨keeps_refl, ?_⟩) | (with_reducible refine keeps_go ?_ ?_; focus (first | (simp [keeps_cons, keeps_none, objs_app, objs_app0]; done) | (simp only [keeps_cons, keeps_none, objs_app0, objs_app, and_true]; first | rfl | exact ⟨rfl, rfl⟩ | exact ⟨rfl, rfl, rfl⟩))) | (with_reducible refine (And.intro (a := keeps _ _ _) ?_ ?_); focus (first | (simp [keeps_cons, keeps_none, objs_app, objs_app0]; done) | (simp only [keeps_cons, keeps_none, objs_app0, objs_app, and_true]; first | rfl | exact ⟨rfl, rfl⟩ | exact ⟨rfl, rfl, rfl⟩))) | (refine both_ways ?_ ?_) | (rw [wrap_i64 (by omega) (by omega)]) | (refine guardV_split (fun h => ?_) (fun h => ?_) <;> (try rw [h]) <;> (try simp at h) <;> (try (exfalso; omega))) | (with_reducible refine awp_drawS (id := 21) [0, 1, 2, 3, 4, 5, 6, 7, 8, 9, 10, 11, 12, 13, 14, 15, 16, 17, 18, 19, 20, 21, 22] (by kernel_rfl) ?_) | (with_reducible refine awp_drawT (id := 26) (.op 0 2 (.op 1 2 (.op 2 2 (.op 3 2 (.op 4 2 (.op 5 2 (.op 6 2 (.op 7 2 (.op 8 2 (.op 9 3 (.op 10 3 (.op 11 2 (.op 12 1 (.op 13 2 .nil)))))))))))))) (by kernel_rfl) ?_) | (refine nth_get hbk ?_) | (refine bytes_c (sized_of hRy) (by omega) ?_) | (refine rput_c hme hpb hpl (by omega) ?_) | (refine build_slice E29s rfl (by decide) (by intro v hv; simp at hv; try (subst hv; simp [go_sem])) ?_))
                  refine append_shp (y := putS me b (longI y.x k)) hG.c (by omega) ?_
                  repeat' (first | (simp -dsimp only [↓reduceIte, go_sem, t0, t1, t2, t3, t9, t12, t13, t14, t15, t16, t17, t18, t19, c0, c1, w2, w3, og, cellAt_growS, L21.leafV]) | (refine arr_intro fun _ => ?_) | (refine later_intro ⟨keeps_nil, ?_⟩) | (refine later_intro ⟨keeps_refl, ?_⟩) | (with_reducible refine keeps_go ?_ ?_; focus (first | (simp [keeps_cons, keeps_none, objs_app, objs_app0]; done) | (simp only [keeps_cons, keeps_none, objs_app0, objs_app, and_true]; first | rfl | exact ⟨rfl, rfl⟩ | exact ⟨rfl, rfl, rfl⟩))) | (with_reducible refine (And.intro (a := keeps _ _ _) ?_ ?_); focus (first | (simp [keeps_cons, keeps_none, objs_app, objs_app0]; done) | (simp only [keeps_cons, keeps_none, objs_app0, objs_app, and_true]; first | rfl | exact ⟨rfl, rfl⟩ | exact ⟨rfl, rfl, rfl⟩))) | (refine both_ways ?_ ?_) | (rw [wrap_i64 (by omega) (by omega)]) | (refine guardV_split (fun h => ?_) (fun h => ?_) <;> (try rw [h]) <;> (try simp at h) <;> (try (exfalso; omega))) | (refine nth_get hbk ?_))
                  ((first | refine later_intro ⟨k + 1, by omega, growT s tb, out' ++ [putS me b (longI y.x k)], b + 1, ?_⟩ | refine ⟨k + 1, by omega, growT s tb, out' ++ [putS me b (longI y.x k)], b + 1, ?_⟩); (repeat' with_reducible apply And.intro); all_goals (first | omega | (simp only [go_sem, t0, t1, t2, t3, t9, t12, t13, t14, t15, t16, t17, t18, t19, w2, w3, hM2]; done) | rfl | assumption | (simp only [go_sem, t0, t1, t2, t3, t9, t12, t13, t14, t15, t16, t17, t18, t19, w2, w3, hM2]; rfl) | skip))
                  all_goals first
                    | exact e2
                    | (rw [List.length_append]; exact hG.grow)
                    | (rw [og]; assumption)
                    | trace_state
                · rw [if_neg ht] at hh2
                  have hcs : ((y.x.num == t.node) = false ∧ True ∧ True) ∨ ((y.x.num == t.node) = true ∧ ¬ 32 * (k : Int) < t.end_ ∧ True) ∨ ((y.x.num == t.node) = true ∧ 32 * (k : Int) < t.end_ ∧ ¬ t.from_ < 32 * k + longI y.x k) := by
                    by_cases h1 : y.x.num = t.node
                    · by_cases h2 : 32 * (k : Int) < t.end_
                      · exact .inr (.inr ⟨by simpa using h1, h2, fun h3 => ht ⟨h1, h2, h3⟩⟩)
                      · exact .inr (.inl ⟨by simpa using h1, h2, trivial⟩)
                    · exact .inl ⟨by simpa using h1, trivial, trivial⟩
                  rcases hcs with ⟨z1, z2, z3⟩ | ⟨z1, z2, z3⟩ | ⟨z1, z2, z3⟩
                  all_goals
                    by_cases hv1 : v = -1
                    · rw [if_neg (by omega), if_pos (by omega)] at e2
                      have g0 : ¬ (0 : Int) ≤ v := by omega
                      have g1 : v < 0 := by omega
                      repeat' (first | (simp -dsimp only [↓reduceIte, go_sem, t0, t1, t2, t3, t9, t12, t13, t14, t15, t16, t17, t18, t19, hlt3, c0, c1, w2, w3, w4, w5, z1, z2, z3, g0, g1, L21.leafV]) | (refine arr_intro fun _ => ?_) | (refine later_intro ⟨keeps_nil, ?_⟩) | (refine later_intro ⟨keeps_refl, ?_⟩) | (with_reducible refine keeps_go ?_ ?_; focus (first | (simp [keeps_cons, keeps_none, objs_app, objs_app0]; done) | (simp only [keeps_cons, keeps_none, objs_app0, objs_app, and_true]; first | rfl | exact ⟨rfl, rfl⟩ | exact ⟨rfl, rfl, rfl⟩))) | (with_reducible refine (And.intro (a := keeps _ _ _) ?_ ?_); focus (first | (simp [keeps_cons, keeps_none, objs_app, objs_app0]; done) | (simp only [keeps_cons, keeps_none, objs_app0, objs_app, and_true]; first | rfl | exact ⟨rfl, rfl⟩ | exact ⟨rfl, rfl, rfl⟩))) | (refine both_ways ?_ ?_) | (rw [wrap_i64 (by omega) (by omega)]) | (refine guardV_split (fun h => ?_) (fun h => ?_) <;> (try rw [h]) <;> (try simp at h) <;> (try (exfalso; omega))) | (with_reducible refine awp_drawS (id := 21) [0, 1, 2, 3, 4, 5, 6, 7, 8, 9, 10, 11, 12, 13, 14, 15, 16, 17, 18, 19, 20, 21, 22] (by kernel_rfl) ?_) | (with_reducible refine awp_drawT (id := 26) (.op 0 2 (.op 1 2 (.op 2 2 (.op 3 2 (.op 4 2 (.op 5 2 (.op 6 2 (.op 7 2 (.op 8 2 (.op 9 3 (.op 10 3 (.op 11 2 (.op 12 1 (.op 13 2 .nil)))))))))))))) (by kernel_rfl) ?_) | (refine nth_get hbk ?_) | (refine bytes_c (sized_of hRy) (by omega) ?_) | (refine rput_c hme hpb hpl (by omega) ?_) | (refine build_slice E29s rfl (by decide) (by intro v hv; simp at hv; try (subst hv; simp [go_sem])) ?_))
                      refine append_shp (y := putS me b (longI y.x k)) hG.c (by omega) ?_
                      repeat' (first | (simp -dsimp only [↓reduceIte, go_sem, t0, t1, t2, t3, t9, t12, t13, t14, t15, t16, t17, t18, t19, c0, c1, w2, w3, og, cellAt_growS, L21.leafV]) | (refine arr_intro fun _ => ?_) | (refine later_intro ⟨keeps_nil, ?_⟩) | (refine later_intro ⟨keeps_refl, ?_⟩) | (with_reducible refine keeps_go ?_ ?_; focus (first | (simp [keeps_cons, keeps_none, objs_app, objs_app0]; done) | (simp only [keeps_cons, keeps_none, objs_app0, objs_app, and_true]; first | rfl | exact ⟨rfl, rfl⟩ | exact ⟨rfl, rfl, rfl⟩))) | (with_reducible refine (And.intro (a := keeps _ _ _) ?_ ?_); focus (first | (simp [keeps_cons, keeps_none, objs_app, objs_app0]; done) | (simp only [keeps_cons, keeps_none, objs_app0, objs_app, and_true]; first | rfl | exact ⟨rfl, rfl⟩ | exact ⟨rfl, rfl, rfl⟩))) | (refine both_ways ?_ ?_) | (rw [wrap_i64 (by omega) (by omega)]) | (refine guardV_split (fun h => ?_) (fun h => ?_) <;> (try rw [h]) <;> (try simp at h) <;> (try (exfalso; omega))) | (refine nth_get hbk ?_))
                      ((first | refine later_intro ⟨k + 1, by omega, growT s tb, out' ++ [putS me b (longI y.x k)], b + 1, ?_⟩ | refine ⟨k + 1, by omega, growT s tb, out' ++ [putS me b (longI y.x k)], b + 1, ?_⟩); (repeat' with_reducible apply And.intro); all_goals (first | omega | (simp only [go_sem, t0, t1, t2, t3, t9, t12, t13, t14, t15, t16, t17, t18, t19, w2, w3, hM2]; done) | rfl | assumption | (simp only [go_sem, t0, t1, t2, t3, t9, t12, t13, t14, t15, t16, t17, t18, t19, w2, w3, hM2]; rfl) | skip))
                      all_goals first
                        | exact e2
                        | (rw [List.length_append]; exact hG.grow)
                        | (rw [og]; assumption)
                        | trace_state
                    · have g0 : (0 : Int) ≤ v := by omega
                      have g1 : ¬ v < 0 := by omega
                      by_cases hvb : v = b
                      · rw [if_pos (by omega)] at e2
                        have g2 : (v != b) = false := by simpa using hvb
                        repeat' (first | (simp -dsimp only [↓reduceIte, go_sem, t0, t1, t2, t3, t9, t12, t13, t14, t15, t16, t17, t18, t19, hlt3, c0, c1, w2, w3, w4, w5, z1, z2, z3, g0, g1, g2, L21.leafV]) | (refine arr_intro fun _ => ?_) | (refine later_intro ⟨keeps_nil, ?_⟩) | (refine later_intro ⟨keeps_refl, ?_⟩) | (with_reducible refine keeps_go ?_ ?_; focus (first | (simp [keeps_cons, keeps_none, objs_app, objs_app0]; done) | (simp only [keeps_cons, keeps_none, objs_app0, objs_app, and_true]; first | rfl | exact ⟨rfl, rfl⟩ | exact ⟨rfl, rfl, rfl⟩))) | (with_reducible refine (And.intro (a := keeps _ _ _) ?_ ?_); focus (first | (simp [keeps_cons, keeps_none, objs_app, objs_app0]; done) | (simp only [keeps_cons, keeps_none, objs_app0, objs_app, and_true]; first | rfl | exact ⟨rfl, rfl⟩ | exact ⟨rfl, rfl, rfl⟩))) | (refine both_ways ?_ ?_) | (rw [wrap_i64 (by omega) (by omega)]) | (refine guardV_split (fun h => ?_) (fun h => ?_) <;> (try rw [h]) <;> (try simp at h) <;> (try (exfalso; omega))) | (with_reducible refine awp_drawS (id := 21) [0, 1, 2, 3, 4, 5, 6, 7, 8, 9, 10, 11, 12, 13, 14, 15, 16, 17, 18, 19, 20, 21, 22] (by kernel_rfl) ?_) | (with_reducible refine awp_drawT (id := 26) (.op 0 2 (.op 1 2 (.op 2 2 (.op 3 2 (.op 4 2 (.op 5 2 (.op 6 2 (.op 7 2 (.op 8 2 (.op 9 3 (.op 10 3 (.op 11 2 (.op 12 1 (.op 13 2 .nil)))))))))))))) (by kernel_rfl) ?_) | (refine nth_get hbk ?_) | (refine bytes_c (sized_of hRy) (by omega) ?_) | (refine rput_c hme hpb hpl (by omega) ?_) | (refine build_slice E29s rfl (by decide) (by intro v hv; simp at hv; try (subst hv; simp [go_sem])) ?_))
                        ((first | refine later_intro ⟨k + 1, by omega, tb, out', root', ?_⟩ | refine ⟨k + 1, by omega, tb, out', root', ?_⟩); (repeat' with_reducible apply And.intro); all_goals (first | omega | (simp only [go_sem, t0, t1, t2, t3, t9, t12, t13, t14, t15, t16, t17, t18, t19, w2, w3, hM2]; done) | rfl | assumption | (simp only [go_sem, t0, t1, t2, t3, t9, t12, t13, t14, t15, t16, t17, t18, t19, w2, w3, hM2]; rfl) | skip))
                        all_goals trace_state
                      · rw [if_neg (by omega), if_neg (by omega)] at e2
                        have g2 : (v != b) = true := by simpa using hvb
                        repeat' (first | (simp -dsimp only [↓reduceIte, go_sem, t0, t1, t2, t3, t9, t12, t13, t14, t15, t16, t17, t18, t19, hlt3, c0, c1, w2, w3, w4, w5, z1, z2, z3, g0, g1, g2, L21.leafV]) | (refine arr_intro fun _ => ?_) | (refine later_intro ⟨keeps_nil, ?_⟩) | (refine later_intro ⟨keeps_refl, ?_⟩) | (with_reducible refine keeps_go ?_ ?_; focus (first | (simp [keeps_cons, keeps_none, objs_app, objs_app0]; done) | (simp only [keeps_cons, keeps_none, objs_app0, objs_app, and_true]; first | rfl | exact ⟨rfl, rfl⟩ | exact ⟨rfl, rfl, rfl⟩))) | (with_reducible refine (And.intro (a := keeps _ _ _) ?_ ?_); focus (first | (simp [keeps_cons, keeps_none, objs_app, objs_app0]; done) | (simp only [keeps_cons, keeps_none, objs_app0, objs_app, and_true]; first | rfl | exact ⟨rfl, rfl⟩ | exact ⟨rfl, rfl, rfl⟩))) | (refine both_ways ?_ ?_) | (rw [wrap_i64 (by omega) (by omega)]) | (refine guardV_split (fun h => ?_) (fun h => ?_) <;> (try rw [h]) <;> (try simp at h) <;> (try (exfalso; omega))) | (with_reducible refine awp_drawS (id := 21) [0, 1, 2, 3, 4, 5, 6, 7, 8, 9, 10, 11, 12, 13, 14, 15, 16, 17, 18, 19, 20, 21, 22] (by kernel_rfl) ?_) | (with_reducible refine awp_drawT (id := 26) (.op 0 2 (.op 1 2 (.op 2 2 (.op 3 2 (.op 4 2 (.op 5 2 (.op 6 2 (.op 7 2 (.op 8 2 (.op 9 3 (.op 10 3 (.op 11 2 (.op 12 1 (.op 13 2 .nil)))))))))))))) (by kernel_rfl) ?_) | (refine nth_get hbk ?_) | (refine bytes_c (sized_of hRy) (by omega) ?_) | (refine rput_c hme hpb hpl (by omega) ?_) | (refine build_slice E29s rfl (by decide) (by intro v hv; simp at hv; try (subst hv; simp [go_sem])) ?_))
                        have := hK _ .full hG.x
                        rw [chg_bad hch (by rw [List.getElem?_map, hyi]; rfl) (by omega) e2] at this
                        exact this
          · obtain rfl : k = y.x.blocks.length := by omega
            have hlt2 : ¬ ((y.x.blocks.length : Nat) : Int) < y.x.blocks.length := by omega
            rw [List.take_length, ← eM] at t14
            have e3 : chL me (old.map (·.x)) t (l.map (·.x)) (i + 1) = some (out', root') := by
              rw [chL, hch, List.getElem?_map, hyi]; exact hcb
            repeat' (first | (simp -dsimp only [↓reduceIte, go_sem, t0, t1, t2, t3, t9, t12, t13, t14, t15, t16, t17, hlt2, w1, c1, L21.leafV]) | (refine arr_intro fun _ => ?_) | (refine later_intro ⟨keeps_nil, ?_⟩) | (refine later_intro ⟨keeps_refl, ?_⟩) | (with_reducible refine keeps_go ?_ ?_; focus (first | (simp [keeps_cons, keeps_none, objs_app, objs_app0]; done) | (simp only [keeps_cons, keeps_none, objs_app0, objs_app, and_true]; first | rfl | exact ⟨rfl, rfl⟩ | exact ⟨rfl, rfl, rfl⟩))) | (with_reducible refine (And.intro (a := keeps _ _ _) ?_ ?_); focus (first | (simp [keeps_cons, keeps_none, objs_app, objs_app0]; done) | (simp only [keeps_cons, keeps_none, objs_app0, objs_app, and_true]; first | rfl | exact ⟨rfl, rfl⟩ | exact ⟨rfl, rfl, rfl⟩))) | (refine both_ways ?_ ?_) | (rw [wrap_i64 (by omega) (by omega)]) | (refine guardV_split (fun h => ?_) (fun h => ?_) <;> (try rw [h]) <;> (try simp at h) <;> (try (exfalso; omega))))
            ((first | refine later_intro ⟨i + 1, by omega, tb, out', root', ?_⟩ | refine ⟨i + 1, by omega, tb, out', root', ?_⟩); (repeat' with_reducible apply And.intro); all_goals (first | omega | (simp only [go_sem, t0, t1, t2, t3, t9, t12, t13, t14, t15, t16, t17, w1]; done) | rfl | assumption | (simp only [go_sem, t0, t1, t2, t3, t9, t12, t13, t14, t15, t16, t17, w1]; rfl) | skip))
            all_goals trace_state
      · obtain rfl : i = l.length := by omega
        have hlt1 : ¬ ((l.length : Nat) : Int) < l.length := by omega
        rw [List.take_length] at t14
        have e0 : chg me n (old.map (·.x)) (l.map (·.x)) t = chE me n (old.map (·.x)) (l.map (·.x)) (out, root) := by
          unfold chg
          rw [if_pos ⟨hTo, hTl⟩, List.length_map, hch]
        have hMb := tbL l.length
        rw [List.take_length] at hMb
        generalize hM0 : topL (blkL (l.map (·.x))) 0 = M at t14 hMb
        repeat' (first | (simp -dsimp only [↓reduceIte, go_sem, t0, t1, t2, t3, t9, t12, t13, t14, t15, hlt1]) | (refine arr_intro fun _ => ?_) | (refine later_intro ⟨keeps_nil, ?_⟩) | (refine later_intro ⟨keeps_refl, ?_⟩) | (with_reducible refine keeps_go ?_ ?_; focus (first | (simp [keeps_cons, keeps_none, objs_app, objs_app0]; done) | (simp only [keeps_cons, keeps_none, objs_app0, objs_app, and_true]; first | rfl | exact ⟨rfl, rfl⟩ | exact ⟨rfl, rfl, rfl⟩))) | (with_reducible refine (And.intro (a := keeps _ _ _) ?_ ?_); focus (first | (simp [keeps_cons, keeps_none, objs_app, objs_app0]; done) | (simp only [keeps_cons, keeps_none, objs_app0, objs_app, and_true]; first | rfl | exact ⟨rfl, rfl⟩ | exact ⟨rfl, rfl, rfl⟩))) | (refine both_ways ?_ ?_) | (rw [wrap_i64 (by omega) (by omega)]) | (refine guardV_split (fun h => ?_) (fun h => ?_) <;> (try rw [h]) <;> (try simp at h) <;> (try (exfalso; omega))))
        refine awp_rounds (fun (i : Nat) τ s' => s' = s ∧ i ≤ old.length ∧ τ 0 = .int .i64 me ∧ τ 1 = .int .i64 n ∧ τ 2 = .slice to (old.map L21.leafV) ∧ τ 3 = .slice tl (l.map L21.leafV) ∧ τ 9 = .ptr (some (σ.objs.length, [])) ∧ τ 12 = .slice tb (out.map shpV) ∧ τ 13 = .int .i64 root ∧ τ 14 = .int .i64 (topL (blkL ((old.take i).map (·.x))) M) ∧ τ 21 = .int .i64 i) (fun i => old.length - i) 0 ?_ ?_
        · refine ⟨rfl, by omega, ?_, ?_, ?_, ?_, ?_, ?_, ?_, ?_, ?_⟩ <;> (try simp only [go_sem, t0, t1, t2, t3, t9, t12, t13, t14, t15]) <;> (try rfl)
        · clear t0 t1 t2 t3 t9 t12 t13 t14 t15
          rintro i τ s' ⟨rfl, hi, t0, t1, t2, t3, t9, t12, t13, t14, t21⟩
          by_cases hib : i < old.length
          · have hlt2 : (i : Int) < old.length := by omega
            have hyi : old[i]? = some old[i] := List.getElem?_eq_getElem hib
            have hRy := hRo _ (List.getElem_mem hib)
            have hyb := hob' _ (List.getElem_mem hib)
            generalize old[i] = y at hyi hRy hyb
            have w1 : IntKind.i64.wrap ((i : Int) + 1) = (i : Int) + 1 := wrap_i64 (by omega) (by omega)
            have eM : topL (blkL ((old.take (i + 1)).map (·.x))) M = topL y.x.blocks (topL (blkL ((old.take i).map (·.x))) M) := by
              rw [List.take_add_one, hyi]; unfold blkL; rw [List.map_append, List.flatMap_append, topL_app]; simp
            generalize topL (blkL ((old.take i).map (·.x))) M = M1 at t14 eM
            repeat' (first | (simp -dsimp only [↓reduceIte, go_sem, t0, t1, t2, t3, t9, t12, t13, t14, t21, hlt2, L21.leafV]) | (refine arr_intro fun _ => ?_) | (refine later_intro ⟨keeps_nil, ?_⟩) | (refine later_intro ⟨keeps_refl, ?_⟩) | (with_reducible refine keeps_go ?_ ?_; focus (first | (simp [keeps_cons, keeps_none, objs_app, objs_app0]; done) | (simp only [keeps_cons, keeps_none, objs_app0, objs_app, and_true]; first | rfl | exact ⟨rfl, rfl⟩ | exact ⟨rfl, rfl, rfl⟩))) | (with_reducible refine (And.intro (a := keeps _ _ _) ?_ ?_); focus (first | (simp [keeps_cons, keeps_none, objs_app, objs_app0]; done) | (simp only [keeps_cons, keeps_none, objs_app0, objs_app, and_true]; first | rfl | exact ⟨rfl, rfl⟩ | exact ⟨rfl, rfl, rfl⟩))) | (refine both_ways ?_ ?_) | (rw [wrap_i64 (by omega) (by omega)]) | (refine guardV_split (fun h => ?_) (fun h => ?_) <;> (try rw [h]) <;> (try simp at h) <;> (try (exfalso; omega))) | (refine nth_get hyi ?_))
            refine awp_rounds (fun (k : Nat) τ s2 => s2 = s' ∧ k ≤ y.x.blocks.length ∧ τ 0 = .int .i64 me ∧ τ 1 = .int .i64 n ∧ τ 2 = .slice to (old.map L21.leafV) ∧ τ 3 = .slice tl (l.map L21.leafV) ∧ τ 9 = .ptr (some (σ.objs.length, [])) ∧ τ 12 = .slice tb (out.map shpV) ∧ τ 13 = .int .i64 root ∧ τ 14 = .int .i64 (topL (y.x.blocks.take k) M1) ∧ τ 21 = .int .i64 i ∧ τ 22 = .int .i64 k) (fun k => y.x.blocks.length - k) 0 ?_ ?_
            · refine ⟨rfl, by omega, ?_, ?_, ?_, ?_, ?_, ?_, ?_, ?_, ?_, ?_⟩ <;> (try simp only [go_sem, t0, t1, t2, t3, t9, t12, t13, t14, t21]) <;> (try rfl)
            · clear t0 t1 t2 t3 t9 t12 t13 t14 t21
              rintro k τ s2 ⟨rfl, hk, t0, t1, t2, t3, t9, t12, t13, t14, t21, t22⟩
              by_cases hkb : k < y.x.blocks.length
              · have hlt3 : (k : Int) < y.x.blocks.length := by omega
                have hbk : y.x.blocks[k]? = some y.x.blocks[k] := List.getElem?_eq_getElem hkb
                have hbb := blk_of hRy _ (List.getElem_mem hkb)
                generalize y.x.blocks[k] = b at hbk hbb
                have w2 : IntKind.i64.wrap ((k : Int) + 1) = (k : Int) + 1 := wrap_i64 (by omega) (by omega)
                have w3 : IntKind.i64.wrap (b + 1) = b + 1 := wrap_i64 (by omega) (by omega)
                have e3 : topL (y.x.blocks.take (k + 1)) M1 = max (topL (y.x.blocks.take k) M1) (b + 1) := by rw [List.take_add_one, hbk, topL_app]; rfl
                repeat' (first | (simp -dsimp only [↓reduceIte, go_sem, t0, t1, t2, t3, t9, t12, t13, t14, t21, t22, hlt3, w2, w3, L21.leafV]) | (refine arr_intro fun _ => ?_) | (refine later_intro ⟨keeps_nil, ?_⟩) | (refine later_intro ⟨keeps_refl, ?_⟩) | (with_reducible refine keeps_go ?_ ?_; focus (first | (simp [keeps_cons, keeps_none, objs_app, objs_app0]; done) | (simp only [keeps_cons, keeps_none, objs_app0, objs_app, and_true]; first | rfl | exact ⟨rfl, rfl⟩ | exact ⟨rfl, rfl, rfl⟩))) | (with_reducible refine (And.intro (a := keeps _ _ _) ?_ ?_); focus (first | (simp [keeps_cons, keeps_none, objs_app, objs_app0]; done) | (simp only [keeps_cons, keeps_none, objs_app0, objs_app, and_true]; first | rfl | exact ⟨rfl, rfl⟩ | exact ⟨rfl, rfl, rfl⟩))) | (refine both_ways ?_ ?_) | (rw [wrap_i64 (by omega) (by omega)]) | (refine guardV_split (fun h => ?_) (fun h => ?_) <;> (try rw [h]) <;> (try simp at h) <;> (try (exfalso; omega))) | (refine nth_get hyi ?_) | (refine nth_get hbk ?_))
                all_goals ((first | refine later_intro ⟨k + 1, by omega, ?_⟩ | refine ⟨k + 1, by omega, ?_⟩); (repeat' with_reducible apply And.intro); all_goals (first | omega | (simp only [go_sem, t0, t1, t2, t3, t9, t12, t13, t14, t21, t22, w2, e3]; done) | rfl | assumption | (simp only [go_sem, t0, t1, t2, t3, t9, t12, t13, t14, t21, t22, w2, e3]; rfl) | skip))
                all_goals trace_state
              · obtain rfl : k = y.x.blocks.length := by omega
                have hlt3 : ¬ ((y.x.blocks.length : Nat) : Int) < y.x.blocks.length := by omega
                rw [List.take_length, ← eM] at t14
                repeat' (first | (simp -dsimp only [↓reduceIte, go_sem, t0, t1, t2, t3, t9, t12, t13, t14, t21, t22, hlt3, w1, L21.leafV]) | (refine arr_intro fun _ => ?_) | (refine later_intro ⟨keeps_nil, ?_⟩) | (refine later_intro ⟨keeps_refl, ?_⟩) | (with_reducible refine keeps_go ?_ ?_; focus (first | (simp [keeps_cons, keeps_none, objs_app, objs_app0]; done) | (simp only [keeps_cons, keeps_none, objs_app0, objs_app, and_true]; first | rfl | exact ⟨rfl, rfl⟩ | exact ⟨rfl, rfl, rfl⟩))) | (with_reducible refine (And.intro (a := keeps _ _ _) ?_ ?_); focus (first | (simp [keeps_cons, keeps_none, objs_app, objs_app0]; done) | (simp only [keeps_cons, keeps_none, objs_app0, objs_app, and_true]; first | rfl | exact ⟨rfl, rfl⟩ | exact ⟨rfl, rfl, rfl⟩))) | (refine both_ways ?_ ?_) | (rw [wrap_i64 (by omega) (by omega)]) | (refine guardV_split (fun h => ?_) (fun h => ?_) <;> (try rw [h]) <;> (try simp at h) <;> (try (exfalso; omega))) | (refine nth_get hyi ?_))
                all_goals ((first | refine later_intro ⟨i + 1, by omega, ?_⟩ | refine ⟨i + 1, by omega, ?_⟩); (repeat' with_reducible apply And.intro); all_goals (first | omega | (simp only [go_sem, t0, t1, t2, t3, t9, t12, t13, t14, t21, t22, w1]; done) | rfl | assumption | (simp only [go_sem, t0, t1, t2, t3, t9, t12, t13, t14, t21, t22, w1]; rfl) | skip))
                all_goals trace_state
          · obtain rfl : i = old.length := by omega
            have hlt2 : ¬ ((old.length : Nat) : Int) < old.length := by omega
            rw [List.take_length] at t14
            have hLt : L21.Light (l.map (·.x)) := ⟨by rw [List.length_map]; omega, hfl.2⟩
            have hbS := leafS_G hTl.1 hfl
            have hnb : ((byt (l.map (·.x))).length : Int) ≤ 4096 := by have := hTl.2.1; omega
            have htv : topL (blkL (old.map (·.x))) M = topL (blkL (old.map (·.x)) ++ blkL (l.map (·.x))) 0 := by rw [← hM0, ← topL_app, topL_comm]
            have htb : 0 ≤ topL (blkL (old.map (·.x)) ++ blkL (l.map (·.x))) 0 ∧ topL (blkL (old.map (·.x)) ++ blkL (l.map (·.x))) 0 ≤ 1099511627777 := by
              refine ⟨topL_ge _ _, topL_le (by omega) fun b hb => ?_⟩
              rw [← blks_x, ← blks_x] at hb
              rcases List.mem_append.1 hb with hb | hb
              · obtain ⟨y, hy, hb⟩ := List.mem_flatMap.1 hb
                have := blk_of (hRo y hy) b hb; omega
              · obtain ⟨y, hy, hb⟩ := List.mem_flatMap.1 hb
                have := blk_of (hRl y hy) b hb; omega
            rw [htv] at t14
            have e1 : ∀ r, r = (if root < 0 then topL (blkL (old.map (·.x)) ++ blkL (l.map (·.x))) 0 else root) → chg me n (old.map (·.x)) (l.map (·.x)) t = (out ++ [putS me r (byt (l.map (·.x))).length] ++ [subS me n r], 0) := fun r hr => by
              rw [e0, chE]; dsimp only; rw [← hr]; simp
            generalize hbt : (byt (l.map (·.x))).length = nb at hnb e1
            by_cases hr0 : root < 0
            · have e2 := e1 _ (by rw [if_pos hr0])
              generalize topL (blkL (old.map (·.x)) ++ blkL (l.map (·.x))) 0 = r at htb e2 t14
              have hnr : nlen r ≤ 22 := nlen_le ⟨by omega, by omega⟩
              repeat' (first | (simp -dsimp only [↓reduceIte, go_sem, t0, t1, t2, t3, t9, t12, t13, t14, t21, hlt2, hr0, hbS, hbt]) | (refine arr_intro fun _ => ?_) | (refine later_intro ⟨keeps_nil, ?_⟩) | (refine later_intro ⟨keeps_refl, ?_⟩) | (with_reducible refine keeps_go ?_ ?_; focus (first | (simp [keeps_cons, keeps_none, objs_app, objs_app0]; done) | (simp only [keeps_cons, keeps_none, objs_app0, objs_app, and_true]; first | rfl | exact ⟨rfl, rfl⟩ | exact ⟨rfl, rfl, rfl⟩))) | (with_reducible refine (And.intro (a := keeps _ _ _) ?_ ?_); focus (first | (simp [keeps_cons, keeps_none, objs_app, objs_app0]; done) | (simp only [keeps_cons, keeps_none, objs_app0, objs_app, and_true]; first | rfl | exact ⟨rfl, rfl⟩ | exact ⟨rfl, rfl, rfl⟩))) | (refine both_ways ?_ ?_) | (rw [wrap_i64 (by omega) (by omega)]) | (refine guardV_split (fun h => ?_) (fun h => ?_) <;> (try rw [h]) <;> (try simp at h) <;> (try (exfalso; omega))) | (refine L21.lay_c hTl.1 hLt ?_) | (refine rput_c hme ⟨by omega, by omega⟩ ⟨by omega, by omega⟩ (by omega) ?_) | (refine build_slice E29s rfl (by decide) (by intro v hv; simp at hv; try (subst hv; simp [go_sem])) ?_))
              refine append_shp (y := putS me r nb) hG.c (by omega) ?_
              have hG3 := hG.grow (m := out.length + 1)
              generalize growS s' tb (out.length + 1) 2 = s3 at hG3 ⊢
              generalize growT s' tb = tb3 at hG3 ⊢
              have hl3 : out.length + 1 = (out ++ [putS me r nb]).length := by simp
              rw [hl3] at hG3
              have hll1 : llen [r] = nlen r := by simp [llen]
              have hir : InI [r] := by intro x hx; simp at hx; subst hx; exact ⟨by omega, by omega⟩
              have hnr2 : Rng (nlen r : Nat) := ⟨by omega, by omega⟩
              repeat' (first | (simp -dsimp only [↓reduceIte, go_sem, t0, t1, t2, t3, t9, t12, t13, t14, t21, hll1]) | (refine arr_intro fun _ => ?_) | (refine later_intro ⟨keeps_nil, ?_⟩) | (refine later_intro ⟨keeps_refl, ?_⟩) | (with_reducible refine keeps_go ?_ ?_; focus (first | (simp [keeps_cons, keeps_none, objs_app, objs_app0]; done) | (simp only [keeps_cons, keeps_none, objs_app0, objs_app, and_true]; first | rfl | exact ⟨rfl, rfl⟩ | exact ⟨rfl, rfl, rfl⟩))) | (with_reducible refine (And.intro (a := keeps _ _ _) ?_ ?_); focus (first | (simp [keeps_cons, keeps_none, objs_app, objs_app0]; done) | (simp only [keeps_cons, keeps_none, objs_app0, objs_app, and_true]; first | rfl | exact ⟨rfl, rfl⟩ | exact ⟨rfl, rfl, rfl⟩))) | (refine both_ways ?_ ?_) | (rw [wrap_i64 (by omega) (by omega)]) | (refine guardV_split (fun h => ?_) (fun h => ?_) <;> (try rw [h]) <;> (try simp at h) <;> (try (exfalso; omega))) | (with_reducible refine awp_drawT (id := 39) (.op 0 2 (.op 1 2 (.op 2 2 (.op 3 2 (.op 4 2 (.op 5 3 (.op 6 3 (.op 7 2 (.op 8 1 (.op 9 2 (.op 10 2 .nil))))))))))) (by kernel_rfl) ?_) | (refine build_slice L21.E44 rfl (by decide) (by intro v hv; simp at hv; try (subst hv; simp [go_sem])) ?_) | (refine rints_c (l := [r]) hir (by simp) ?_) | (refine rsubmit_c (x := subW n me) hme hn (show Rng 1 from ⟨by decide, by decide⟩) hme hnr2 (by omega) ?_) | (refine build_slice E29s rfl (by decide) (by intro v hv; simp at hv; try (subst hv; simp [go_sem])) ?_))
              refine append_shp (y := subS me n r) hG3.app.c (by rw [List.length_append]; simp; omega) ?_
              repeat' (first | (simp -dsimp only [↓reduceIte, go_sem]) | (refine arr_intro fun _ => ?_) | (refine later_intro ⟨keeps_nil, ?_⟩) | (refine later_intro ⟨keeps_refl, ?_⟩) | (with_reducible refine keeps_go ?_ ?_; focus (first | (simp [keeps_cons, keeps_none, objs_app, objs_app0]; done) | (simp only [keeps_cons, keeps_none, objs_app0, objs_app, and_true]; first | rfl | exact ⟨rfl, rfl⟩ | exact ⟨rfl, rfl, rfl⟩))) | (with_reducible refine (And.intro (a := keeps _ _ _) ?_ ?_); focus (first | (simp [keeps_cons, keeps_none, objs_app, objs_app0]; done) | (simp only [keeps_cons, keeps_none, objs_app0, objs_app, and_true]; first | rfl | exact ⟨rfl, rfl⟩ | exact ⟨rfl, rfl, rfl⟩))) | (refine both_ways ?_ ?_) | (rw [wrap_i64 (by omega) (by omega)]) | (refine guardV_split (fun h => ?_) (fun h => ?_) <;> (try rw [h]) <;> (try simp at h) <;> (try (exfalso; omega))))
              rw [e2] at hK
              exact hK _ _ hG3.app.grow.x
            · have e2 := e1 root (by rw [if_neg hr0])
              have htb : 0 ≤ root ∧ root ≤ 1099511627777 := by omega
              obtain ⟨r, rfl⟩ : ∃ r, r = root := ⟨_, rfl⟩
              have hnr : nlen r ≤ 22 := nlen_le ⟨by omega, by omega⟩
              repeat' (first | (simp -dsimp only [↓reduceIte, go_sem, t0, t1, t2, t3, t9, t12, t13, t14, t21, hlt2, hr0, hbS, hbt]) | (refine arr_intro fun _ => ?_) | (refine later_intro ⟨keeps_nil, ?_⟩) | (refine later_intro ⟨keeps_refl, ?_⟩) | (with_reducible refine keeps_go ?_ ?_; focus (first | (simp [keeps_cons, keeps_none, objs_app, objs_app0]; done) | (simp only [keeps_cons, keeps_none, objs_app0, objs_app, and_true]; first | rfl | exact ⟨rfl, rfl⟩ | exact ⟨rfl, rfl, rfl⟩))) | (with_reducible refine (And.intro (a := keeps _ _ _) ?_ ?_); focus (first | (simp [keeps_cons, keeps_none, objs_app, objs_app0]; done) | (simp only [keeps_cons, keeps_none, objs_app0, objs_app, and_true]; first | rfl | exact ⟨rfl, rfl⟩ | exact ⟨rfl, rfl, rfl⟩))) | (refine both_ways ?_ ?_) | (rw [wrap_i64 (by omega) (by omega)]) | (refine guardV_split (fun h => ?_) (fun h => ?_) <;> (try rw [h]) <;> (try simp at h) <;> (try (exfalso; omega))) | (refine L21.lay_c hTl.1 hLt ?_) | (refine rput_c hme ⟨by omega, by omega⟩ ⟨by omega, by omega⟩ (by omega) ?_) | (refine build_slice E29s rfl (by decide) (by intro v hv; simp at hv; try (subst hv; simp [go_sem])) ?_))
              refine append_shp (y := putS me r nb) hG.c (by omega) ?_
              have hG3 := hG.grow (m := out.length + 1)
              generalize growS s' tb (out.length + 1) 2 = s3 at hG3 ⊢
              generalize growT s' tb = tb3 at hG3 ⊢
              have hl3 : out.length + 1 = (out ++ [putS me r nb]).length := by simp
              rw [hl3] at hG3
              have hll1 : llen [r] = nlen r := by simp [llen]
              have hir : InI [r] := by intro x hx; simp at hx; subst hx; exact ⟨by omega, by omega⟩
              have hnr2 : Rng (nlen r : Nat) := ⟨by omega, by omega⟩
              repeat' (first | (simp -dsimp only [↓reduceIte, go_sem, t0, t1, t2, t3, t9, t12, t13, t14, t21, hll1]) | (refine arr_intro fun _ => ?_) | (refine later_intro ⟨keeps_nil, ?_⟩) | (refine later_intro ⟨keeps_refl, ?_⟩) | (with_reducible refine keeps_go ?_ ?_; focus (first | (simp [keeps_cons, keeps_none, objs_app, objs_app0]; done) | (simp only [keeps_cons, keeps_none, objs_app0, objs_app, and_true]; first | rfl | exact ⟨rfl, rfl⟩ | exact ⟨rfl, rfl, rfl⟩))) | (with_reducible refine (And.intro (a := keeps _ _ _) ?_ ?_); focus (first | (simp [keeps_cons, keeps_none, objs_app, objs_app0]; done) | (simp only [keeps_cons, keeps_none, objs_app0, objs_app, and_true]; first | rfl | exact ⟨rfl, rfl⟩ | exact ⟨rfl, rfl, rfl⟩))) | (refine both_ways ?_ ?_) | (rw [wrap_i64 (by omega) (by omega)]) | (refine guardV_split (fun h => ?_) (fun h => ?_) <;> (try rw [h]) <;> (try simp at h) <;> (try (exfalso; omega))) | (with_reducible refine awp_drawT (id := 39) (.op 0 2 (.op 1 2 (.op 2 2 (.op 3 2 (.op 4 2 (.op 5 3 (.op 6 3 (.op 7 2 (.op 8 1 (.op 9 2 (.op 10 2 .nil))))))))))) (by kernel_rfl) ?_) | (refine build_slice L21.E44 rfl (by decide) (by intro v hv; simp at hv; try (subst hv; simp [go_sem])) ?_) | (refine rints_c (l := [r]) hir (by simp) ?_) | (refine rsubmit_c (x := subW n me) hme hn (show Rng 1 from ⟨by decide, by decide⟩) hme hnr2 (by omega) ?_) | (refine build_slice E29s rfl (by decide) (by intro v hv; simp at hv; try (subst hv; simp [go_sem])) ?_))
              refine append_shp (y := subS me n r) hG3.app.c (by rw [List.length_append]; simp; omega) ?_
              repeat' (first | (simp -dsimp only [↓reduceIte, go_sem]) | (refine arr_intro fun _ => ?_) | (refine later_intro ⟨keeps_nil, ?_⟩) | (refine later_intro ⟨keeps_refl, ?_⟩) | (with_reducible refine keeps_go ?_ ?_; focus (first | (simp [keeps_cons, keeps_none, objs_app, objs_app0]; done) | (simp only [keeps_cons, keeps_none, objs_app0, objs_app, and_true]; first | rfl | exact ⟨rfl, rfl⟩ | exact ⟨rfl, rfl, rfl⟩))) | (with_reducible refine (And.intro (a := keeps _ _ _) ?_ ?_); focus (first | (simp [keeps_cons, keeps_none, objs_app, objs_app0]; done) | (simp only [keeps_cons, keeps_none, objs_app0, objs_app, and_true]; first | rfl | exact ⟨rfl, rfl⟩ | exact ⟨rfl, rfl, rfl⟩))) | (refine both_ways ?_ ?_) | (rw [wrap_i64 (by omega) (by omega)]) | (refine guardV_split (fun h => ?_) (fun h => ?_) <;> (try rw [h]) <;> (try simp at h) <;> (try (exfalso; omega))))
              rw [e2] at hK
              exact hK _ _ hG3.app.grow.x
  · have e : chg me n (old.map (·.x)) (l.map (·.x)) t = ([], 2) := by unfold chg; rw [if_neg hT]
    rw [e] at hK
    refine tcalls_walk Try.f11 _ [.tmp 10, .tmp 11] Try.func11 rfl rfl rfl mixed (Nat.le_of_ble_eq_true rfl) rfl fun hlen => ?_
    repeat' (first | (simp -dsimp only [↓reduceIte, go_sem]) | (refine arr_intro fun _ => ?_) | (refine later_intro ⟨keeps_nil, ?_⟩) | (refine later_intro ⟨keeps_refl, ?_⟩) | (with_reducible refine keeps_go ?_ ?_; focus (first | (simp [keeps_cons, keeps_none, objs_app, objs_app0]; done) | (simp only [keeps_cons, keeps_none, objs_app0, objs_app, and_true]; first | rfl | exact ⟨rfl, rfl⟩ | exact ⟨rfl, rfl, rfl⟩))) | (with_reducible refine (And.intro (a := keeps _ _ _) ?_ ?_); focus (first | (simp [keeps_cons, keeps_none, objs_app, objs_app0]; done) | (simp only [keeps_cons, keeps_none, objs_app0, objs_app, and_true]; first | rfl | exact ⟨rfl, rfl⟩ | exact ⟨rfl, rfl, rfl⟩))) | (refine both_ways ?_ ?_) | (rw [wrap_i64 (by omega) (by omega)]) | (refine guardV_split (fun h => ?_) (fun h => ?_) <;> (try rw [h]) <;> (try simp at h) <;> (try (exfalso; omega))) | (refine may_c hfo (fun h => ?_) (fun h => ?_)) | (refine may_c hfl (fun h => ?_) (fun h => ?_)))
    all_goals first
      | exact absurd ⟨‹_›, ‹_›⟩ hT
      | exact hK _ .full (Ext.app _ _)
end
theorem eq_shp {a b : Shp} : eqA Try.prog 40 58 (.agg (shpPs a)) (.agg (shpPs b)) = some (decide (a = b)) := by
  have hs : Try.prog.stoodInHeld 58 = false := by kernel_rfl
  simp only [eqA, Try.underlying58, hs, if_true]
  unfold shpPs
  rw [eqAs_cons ⟨by decide, by simp [AV.sizes, AV.size], by simp [AV.sizes, AV.size], by kernel_rfl, by simp [AV.size]; kernel_rfl, by kernel_rfl, by simp [AV.size]; kernel_rfl⟩ eq_int3]
  refine (Classical.em (a.kind = b.kind)).elim (fun h0 => ?_) (fun h0 => by rw [if_neg (by simpa [dig_ext] using h0), decide_eq_false (fun e => h0 (congrArg Shp.kind e))])
  rw [if_pos (by simpa [dig_ext] using h0)]
  rw [eqAs_cons ⟨by decide, by simp [AV.sizes, AV.size], by simp [AV.sizes, AV.size], by kernel_rfl, by simp [AV.size]; kernel_rfl, by kernel_rfl, by simp [AV.size]; kernel_rfl⟩ eq_int3]
  refine (Classical.em (a.size = b.size)).elim (fun h1 => ?_) (fun h1 => by rw [if_neg (by simpa [dig_ext] using h1), decide_eq_false (fun e => h1 (congrArg Shp.size e))])
  rw [if_pos (by simpa [dig_ext] using h1)]
  rw [decide_eq_true (by cases a; cases b; simp_all)]; simp only [eqAs]
theorem bin_shp_eql {a b : Shp} {KV : AV → Prop} : binW Try.prog .eql 58 (.agg (shpPs a)) (.agg (shpPs b)) KV = KV (.bool (decide (a = b))) := by
  have h : Try.prog.eqGuardType Try.prog.depth 58 = false := by kernel_rfl
  simp [binW, eqW, eq_shp, h]
theorem bin_shp_neq {a b : Shp} {KV : AV → Prop} : binW Try.prog .neq 58 (.agg (shpPs a)) (.agg (shpPs b)) KV = KV (.bool !(decide (a = b))) := by
  have h : Try.prog.eqGuardType Try.prog.depth 58 = false := by kernel_rfl
  simp [binW, eqW, eq_shp, h]

section
variable {σ : AST} {K : AV → AST → Prop}
theorem few_c {l : List TL} {tk : Tk} (hT : FewL (l.map (·.x)) → K (.bool true) σ) (hF : ¬ FewL (l.map (·.x)) → K (.bool false) σ) : TCalls Try.prog 8 [.slice tk (l.map L21.leafV)] σ K := by
  by_cases hl : l.length ≤ 40
  · have hl1 : ¬ (40 : Int) < l.length := by omega
    refine tcalls_walk Try.f8 _ [.tmp 2] Try.func8 rfl rfl rfl mixed (Nat.le_of_ble_eq_true rfl) rfl fun hlen => ?_
    repeat' (first | (simp -dsimp only [↓reduceIte, go_sem, hl1]) | (refine arr_intro fun _ => ?_) | (refine later_intro ⟨keeps_nil, ?_⟩) | (refine later_intro ⟨keeps_refl, ?_⟩) | (with_reducible refine keeps_go ?_ ?_; focus (first | (simp [keeps_cons, keeps_none, objs_app, objs_app0]; done) | (simp only [keeps_cons, keeps_none, objs_app0, objs_app, and_true]; first | rfl | exact ⟨rfl, rfl⟩ | exact ⟨rfl, rfl, rfl⟩))) | (with_reducible refine (And.intro (a := keeps _ _ _) ?_ ?_); focus (first | (simp [keeps_cons, keeps_none, objs_app, objs_app0]; done) | (simp only [keeps_cons, keeps_none, objs_app0, objs_app, and_true]; first | rfl | exact ⟨rfl, rfl⟩ | exact ⟨rfl, rfl, rfl⟩))) | (refine both_ways ?_ ?_) | (rw [wrap_i64 (by omega) (by omega)]) | (refine guardV_split (fun h => ?_) (fun h => ?_) <;> (try rw [h]) <;> (try simp at h) <;> (try (exfalso; omega))))
    refine awp_rounds (fun (i : Nat) τ s => s = σ ∧ i ≤ l.length ∧ (∀ m < i, ∀ y, l[m]? = some y → y.x.blocks.length ≤ 40 ∧ y.x.names.length ≤ 80 ∧ y.x.nodes.length ≤ 80) ∧ τ 0 = .slice tk (l.map L21.leafV) ∧ τ 3 = .int .i64 i) (fun i => l.length - i) 0 ?_ ?_
    · refine ⟨rfl, by omega, fun m hm => absurd hm (by omega), ?_, ?_⟩ <;> (try simp only [go_sem]) <;> (try rfl)
    · rintro i τ s ⟨rfl, hi, hno, t0, t3⟩
      by_cases hib : i < l.length
      · have hlt1 : (i : Int) < l.length := by omega
        have hyi : l[i]? = some l[i] := List.getElem?_eq_getElem hib
        generalize l[i] = y at hyi
        have w1 : IntKind.i64.wrap ((i : Int) + 1) = (i : Int) + 1 := wrap_i64 (by omega) (by omega)
        have bad : ¬ (y.x.blocks.length ≤ 40 ∧ y.x.names.length ≤ 80 ∧ y.x.nodes.length ≤ 80) → K (.bool false) s := fun h => hF (fun q => h (q.2 y.x (List.mem_map.2 ⟨y, List.mem_of_getElem? hyi, rfl⟩)))
        by_cases h1 : y.x.blocks.length ≤ 40
        · have g1 : ¬ (40 : Int) < y.x.blocks.length := by omega
          by_cases h2 : y.x.names.length ≤ 80
          · have g2 : ¬ (80 : Int) < y.x.names.length := by omega
            by_cases h3 : y.x.nodes.length ≤ 80
            · have g3 : ¬ (80 : Int) < y.x.nodes.length := by omega
              repeat' (first | (simp -dsimp only [↓reduceIte, go_sem, t0, t3, hlt1, w1, g1, g2, g3, L21.leafV]) | (refine arr_intro fun _ => ?_) | (refine later_intro ⟨keeps_nil, ?_⟩) | (refine later_intro ⟨keeps_refl, ?_⟩) | (with_reducible refine keeps_go ?_ ?_; focus (first | (simp [keeps_cons, keeps_none, objs_app, objs_app0]; done) | (simp only [keeps_cons, keeps_none, objs_app0, objs_app, and_true]; first | rfl | exact ⟨rfl, rfl⟩ | exact ⟨rfl, rfl, rfl⟩))) | (with_reducible refine (And.intro (a := keeps _ _ _) ?_ ?_); focus (first | (simp [keeps_cons, keeps_none, objs_app, objs_app0]; done) | (simp only [keeps_cons, keeps_none, objs_app0, objs_app, and_true]; first | rfl | exact ⟨rfl, rfl⟩ | exact ⟨rfl, rfl, rfl⟩))) | (refine both_ways ?_ ?_) | (rw [wrap_i64 (by omega) (by omega)]) | (refine guardV_split (fun h => ?_) (fun h => ?_) <;> (try rw [h]) <;> (try simp at h) <;> (try (exfalso; omega))) | (refine nth_get hyi ?_))
              ((first | refine later_intro ⟨i + 1, by omega, ?_⟩ | refine ⟨i + 1, by omega, ?_⟩); (repeat' with_reducible apply And.intro); all_goals (first | omega | (simp only [go_sem, t0, t3, w1]; done) | rfl | assumption | (simp only [go_sem, t0, t3, w1]; rfl) | skip))
              intro m hm z hz
              by_cases e : m = i
              · subst e; rw [hyi] at hz; cases hz; exact ⟨h1, h2, h3⟩
              · exact hno m (by omega) z hz
            · have g3 : (80 : Int) < y.x.nodes.length := by omega
              repeat' (first | (simp -dsimp only [↓reduceIte, go_sem, t0, t3, hlt1, w1, g1, g2, g3, L21.leafV]) | (refine arr_intro fun _ => ?_) | (refine later_intro ⟨keeps_nil, ?_⟩) | (refine later_intro ⟨keeps_refl, ?_⟩) | (with_reducible refine keeps_go ?_ ?_; focus (first | (simp [keeps_cons, keeps_none, objs_app, objs_app0]; done) | (simp only [keeps_cons, keeps_none, objs_app0, objs_app, and_true]; first | rfl | exact ⟨rfl, rfl⟩ | exact ⟨rfl, rfl, rfl⟩))) | (with_reducible refine (And.intro (a := keeps _ _ _) ?_ ?_); focus (first | (simp [keeps_cons, keeps_none, objs_app, objs_app0]; done) | (simp only [keeps_cons, keeps_none, objs_app0, objs_app, and_true]; first | rfl | exact ⟨rfl, rfl⟩ | exact ⟨rfl, rfl, rfl⟩))) | (refine both_ways ?_ ?_) | (rw [wrap_i64 (by omega) (by omega)]) | (refine guardV_split (fun h => ?_) (fun h => ?_) <;> (try rw [h]) <;> (try simp at h) <;> (try (exfalso; omega))) | (refine nth_get hyi ?_))
              exact bad (fun q => h3 q.2.2)
          · have g2 : (80 : Int) < y.x.names.length := by omega
            repeat' (first | (simp -dsimp only [↓reduceIte, go_sem, t0, t3, hlt1, w1, g1, g2, L21.leafV]) | (refine arr_intro fun _ => ?_) | (refine later_intro ⟨keeps_nil, ?_⟩) | (refine later_intro ⟨keeps_refl, ?_⟩) | (with_reducible refine keeps_go ?_ ?_; focus (first | (simp [keeps_cons, keeps_none, objs_app, objs_app0]; done) | (simp only [keeps_cons, keeps_none, objs_app0, objs_app, and_true]; first | rfl | exact ⟨rfl, rfl⟩ | exact ⟨rfl, rfl, rfl⟩))) | (with_reducible refine (And.intro (a := keeps _ _ _) ?_ ?_); focus (first | (simp [keeps_cons, keeps_none, objs_app, objs_app0]; done) | (simp only [keeps_cons, keeps_none, objs_app0, objs_app, and_true]; first | rfl | exact ⟨rfl, rfl⟩ | exact ⟨rfl, rfl, rfl⟩))) | (refine both_ways ?_ ?_) | (rw [wrap_i64 (by omega) (by omega)]) | (refine guardV_split (fun h => ?_) (fun h => ?_) <;> (try rw [h]) <;> (try simp at h) <;> (try (exfalso; omega))) | (refine nth_get hyi ?_))
            exact bad (fun q => h2 q.2.1)
        · have g1 : (40 : Int) < y.x.blocks.length := by omega
          repeat' (first | (simp -dsimp only [↓reduceIte, go_sem, t0, t3, hlt1, w1, g1, L21.leafV]) | (refine arr_intro fun _ => ?_) | (refine later_intro ⟨keeps_nil, ?_⟩) | (refine later_intro ⟨keeps_refl, ?_⟩) | (with_reducible refine keeps_go ?_ ?_; focus (first | (simp [keeps_cons, keeps_none, objs_app, objs_app0]; done) | (simp only [keeps_cons, keeps_none, objs_app0, objs_app, and_true]; first | rfl | exact ⟨rfl, rfl⟩ | exact ⟨rfl, rfl, rfl⟩))) | (with_reducible refine (And.intro (a := keeps _ _ _) ?_ ?_); focus (first | (simp [keeps_cons, keeps_none, objs_app, objs_app0]; done) | (simp only [keeps_cons, keeps_none, objs_app0, objs_app, and_true]; first | rfl | exact ⟨rfl, rfl⟩ | exact ⟨rfl, rfl, rfl⟩))) | (refine both_ways ?_ ?_) | (rw [wrap_i64 (by omega) (by omega)]) | (refine guardV_split (fun h => ?_) (fun h => ?_) <;> (try rw [h]) <;> (try simp at h) <;> (try (exfalso; omega))) | (refine nth_get hyi ?_))
          exact bad (fun q => h1 q.1)
      · obtain rfl : i = l.length := by omega
        have hlt1 : ¬ ((l.length : Nat) : Int) < l.length := by omega
        repeat' (first | (simp -dsimp only [↓reduceIte, go_sem, t0, t3, hlt1]) | (refine arr_intro fun _ => ?_) | (refine later_intro ⟨keeps_nil, ?_⟩) | (refine later_intro ⟨keeps_refl, ?_⟩) | (with_reducible refine keeps_go ?_ ?_; focus (first | (simp [keeps_cons, keeps_none, objs_app, objs_app0]; done) | (simp only [keeps_cons, keeps_none, objs_app0, objs_app, and_true]; first | rfl | exact ⟨rfl, rfl⟩ | exact ⟨rfl, rfl, rfl⟩))) | (with_reducible refine (And.intro (a := keeps _ _ _) ?_ ?_); focus (first | (simp [keeps_cons, keeps_none, objs_app, objs_app0]; done) | (simp only [keeps_cons, keeps_none, objs_app0, objs_app, and_true]; first | rfl | exact ⟨rfl, rfl⟩ | exact ⟨rfl, rfl, rfl⟩))) | (refine both_ways ?_ ?_) | (rw [wrap_i64 (by omega) (by omega)]) | (refine guardV_split (fun h => ?_) (fun h => ?_) <;> (try rw [h]) <;> (try simp at h) <;> (try (exfalso; omega))))
        refine hT ⟨by rw [List.length_map]; exact hl, fun x hx => ?_⟩
        obtain ⟨y, hy, rfl⟩ := List.mem_map.1 hx
        obtain ⟨m, hm⟩ := List.mem_iff_getElem?.1 hy
        exact hno m (List.getElem?_eq_some_iff.1 hm).1 y hm
  · have hl1 : (40 : Int) < l.length := by omega
    refine tcalls_walk Try.f8 _ [.tmp 2] Try.func8 rfl rfl rfl mixed (Nat.le_of_ble_eq_true rfl) rfl fun hlen => ?_
    repeat' (first | (simp -dsimp only [↓reduceIte, go_sem, hl1]) | (refine arr_intro fun _ => ?_) | (refine later_intro ⟨keeps_nil, ?_⟩) | (refine later_intro ⟨keeps_refl, ?_⟩) | (with_reducible refine keeps_go ?_ ?_; focus (first | (simp [keeps_cons, keeps_none, objs_app, objs_app0]; done) | (simp only [keeps_cons, keeps_none, objs_app0, objs_app, and_true]; first | rfl | exact ⟨rfl, rfl⟩ | exact ⟨rfl, rfl, rfl⟩))) | (with_reducible refine (And.intro (a := keeps _ _ _) ?_ ?_); focus (first | (simp [keeps_cons, keeps_none, objs_app, objs_app0]; done) | (simp only [keeps_cons, keeps_none, objs_app0, objs_app, and_true]; first | rfl | exact ⟨rfl, rfl⟩ | exact ⟨rfl, rfl, rfl⟩))) | (refine both_ways ?_ ?_) | (rw [wrap_i64 (by omega) (by omega)]) | (refine guardV_split (fun h => ?_) (fun h => ?_) <;> (try rw [h]) <;> (try simp at h) <;> (try (exfalso; omega))))
    exact hF (fun q => hl (by have := q.1; rwa [List.length_map] at this))
theorem same31_c {a : List Shp} {ta tb : Tk} (hl : a.length ≤ 9000) (hK : K (.bool true) σ) : TCalls Try.prog 12 [.slice ta (a.map shpV), .slice tb (a.map shpV)] σ K := by
  refine tcalls_walk Try.f12 _ [.tmp 4] Try.func12 rfl rfl rfl mixed (Nat.le_of_ble_eq_true rfl) rfl fun hlen => ?_
  repeat' (first | (simp -dsimp only [↓reduceIte, go_sem]) | (refine arr_intro fun _ => ?_) | (refine later_intro ⟨keeps_nil, ?_⟩) | (refine later_intro ⟨keeps_refl, ?_⟩) | (with_reducible refine keeps_go ?_ ?_; focus (first | (simp [keeps_cons, keeps_none, objs_app, objs_app0]; done) | (simp only [keeps_cons, keeps_none, objs_app0, objs_app, and_true]; first | rfl | exact ⟨rfl, rfl⟩ | exact ⟨rfl, rfl, rfl⟩))) | (with_reducible refine (And.intro (a := keeps _ _ _) ?_ ?_); focus (first | (simp [keeps_cons, keeps_none, objs_app, objs_app0]; done) | (simp only [keeps_cons, keeps_none, objs_app0, objs_app, and_true]; first | rfl | exact ⟨rfl, rfl⟩ | exact ⟨rfl, rfl, rfl⟩))) | (refine both_ways ?_ ?_) | (rw [wrap_i64 (by omega) (by omega)]) | (refine guardV_split (fun h => ?_) (fun h => ?_) <;> (try rw [h]) <;> (try simp at h) <;> (try (exfalso; omega))))
  refine awp_rounds (fun (i : Nat) τ s => s = σ ∧ i ≤ a.length ∧ τ 0 = .slice ta (a.map shpV) ∧ τ 1 = .slice tb (a.map shpV) ∧ τ 5 = .int .i64 i) (fun i => a.length - i) 0 ?_ ?_
  · refine ⟨rfl, by omega, ?_, ?_, ?_⟩ <;> (try simp only [go_sem]) <;> (try rfl)
  · rintro i τ s ⟨rfl, hi, t0, t1, t5⟩
    by_cases hib : i < a.length
    · have hlt1 : (i : Int) < a.length := by omega
      have hyi : a[i]? = some a[i] := List.getElem?_eq_getElem hib
      generalize a[i] = y at hyi
      have w1 : IntKind.i64.wrap ((i : Int) + 1) = (i : Int) + 1 := wrap_i64 (by omega) (by omega)
      repeat' (first | (simp -dsimp only [↓reduceIte, go_sem, t0, t1, t5, hlt1, w1, bin_shp_neq]) | (refine arr_intro fun _ => ?_) | (refine later_intro ⟨keeps_nil, ?_⟩) | (refine later_intro ⟨keeps_refl, ?_⟩) | (with_reducible refine keeps_go ?_ ?_; focus (first | (simp [keeps_cons, keeps_none, objs_app, objs_app0]; done) | (simp only [keeps_cons, keeps_none, objs_app0, objs_app, and_true]; first | rfl | exact ⟨rfl, rfl⟩ | exact ⟨rfl, rfl, rfl⟩))) | (with_reducible refine (And.intro (a := keeps _ _ _) ?_ ?_); focus (first | (simp [keeps_cons, keeps_none, objs_app, objs_app0]; done) | (simp only [keeps_cons, keeps_none, objs_app0, objs_app, and_true]; first | rfl | exact ⟨rfl, rfl⟩ | exact ⟨rfl, rfl, rfl⟩))) | (refine both_ways ?_ ?_) | (rw [wrap_i64 (by omega) (by omega)]) | (refine guardV_split (fun h => ?_) (fun h => ?_) <;> (try rw [h]) <;> (try simp at h) <;> (try (exfalso; omega))) | (with_reducible refine awp_drawS (id := 6) [0, 1, 2, 3, 4, 5, 6, 7, 8] (by kernel_rfl) ?_) | (refine nth_get hyi ?_))
      ((first | refine later_intro ⟨i + 1, by omega, ?_⟩ | refine ⟨i + 1, by omega, ?_⟩); (repeat' with_reducible apply And.intro); all_goals (first | omega | (simp only [go_sem, t0, t1, t5, w1]; done) | rfl | assumption | (simp only [go_sem, t0, t1, t5, w1]; rfl) | skip))
    · obtain rfl : i = a.length := by omega
      have hlt1 : ¬ ((a.length : Nat) : Int) < a.length := by omega
      repeat' (first | (simp -dsimp only [↓reduceIte, go_sem, t0, t1, t5, hlt1]) | (refine arr_intro fun _ => ?_) | (refine later_intro ⟨keeps_nil, ?_⟩) | (refine later_intro ⟨keeps_refl, ?_⟩) | (with_reducible refine keeps_go ?_ ?_; focus (first | (simp [keeps_cons, keeps_none, objs_app, objs_app0]; done) | (simp only [keeps_cons, keeps_none, objs_app0, objs_app, and_true]; first | rfl | exact ⟨rfl, rfl⟩ | exact ⟨rfl, rfl, rfl⟩))) | (with_reducible refine (And.intro (a := keeps _ _ _) ?_ ?_); focus (first | (simp [keeps_cons, keeps_none, objs_app, objs_app0]; done) | (simp only [keeps_cons, keeps_none, objs_app0, objs_app, and_true]; first | rfl | exact ⟨rfl, rfl⟩ | exact ⟨rfl, rfl, rfl⟩))) | (refine both_ways ?_ ?_) | (rw [wrap_i64 (by omega) (by omega)]) | (refine guardV_split (fun h => ?_) (fun h => ?_) <;> (try rw [h]) <;> (try simp at h) <;> (try (exfalso; omega))))
      exact hK
theorem built84 : Built Try.prog 84 = True := eq_true (by unfold Built; rw [Try.underlying84]; decide +kernel)
theorem E22 : ElemT Try.prog 22 84 6 96 := ⟨rfl, by kernel_rfl, by kernel_rfl, ⟨_, of_eq_true L21.zt46⟩, by decide⟩
attribute [local go_sem] built84
def lf1 : Leaf := ⟨1, 1, 0, [], [], []⟩
def lf1a : Leaf := ⟨1, 1, 0, [], [[97]], [2]⟩
def lf2 : Leaf := ⟨2, 2, 0, [], [], []⟩
theorem right_lf1 : lf1.Right := ⟨by decide, by decide, .inr ⟨rfl, fun i s h => by simp [lf1] at h, fun n h => by simp [lf1] at h, rfl, rfl, rfl⟩⟩
theorem right_lf1a : lf1a.Right := ⟨by decide, by decide, .inr ⟨rfl, fun i s h => by
  have : i = 0 := by have := (List.getElem?_eq_some_iff.1 h).1; simp [lf1a] at this; exact this
  subst this
  simp [lf1a] at h; subst h
  exact ⟨by decide, fun t h0 => absurd h0 (by decide)⟩, fun n h => by simp [lf1a] at h; subst h; decide, rfl, rfl, rfl⟩⟩
theorem right_lf2 : lf2.Right := ⟨by decide, by decide, .inl ⟨rfl, fun n h => by simp [lf2] at h, by decide, by decide, by decide, rfl, rfl⟩⟩
theorem tabok0 : TabOk [lf1] := by
  have hT : L21.Table [lf1] := fun i x hx => by
    have : i = 0 := by have := (List.getElem?_eq_some_iff.1 hx).1; simp at this; exact this
    subst this
    simp at hx; subst hx
    exact ⟨right_lf1, fun y h0 => absurd h0 (by decide)⟩
  have hf : FewL [lf1] := ⟨by decide, by decide⟩
  refine ⟨hT, ?_, ⟨⟨_, rfl, rfl, rfl⟩, ⟨?_, ?_⟩, ?_, ?_, ?_⟩⟩
  · rw [← leafS_G hT hf]; decide +kernel
  · simp [Deep, kids, fnd, gN, nodeOf, lf1]
  · simp [U, kids, fnd, gN, nodeOf, lf1]
  · intro x hx hn; simp at hx; subst hx; exact absurd rfl hn
  · decide +kernel
  · decide +kernel
theorem tabok1 : TabOk [lf1a, lf2] := by
  have hT : L21.Table [lf1a, lf2] := fun i x hx => by
    have : i = 0 ∨ i = 1 := by have := (List.getElem?_eq_some_iff.1 hx).1; simp at this; omega
    rcases this with rfl | rfl
    · simp at hx; subst hx
      exact ⟨right_lf1a, fun y h0 => absurd h0 (by decide)⟩
    · simp at hx; subst hx
      exact ⟨right_lf2, fun y h0 hy => by simp at hy; subst hy; decide⟩
  have hf : FewL [lf1a, lf2] := ⟨by decide, by decide⟩
  refine ⟨hT, ?_, ⟨⟨_, rfl, rfl, rfl⟩, ⟨?_, ?_⟩, ?_, ?_, ?_⟩⟩
  · rw [← leafS_G hT hf]; decide +kernel
  · simp [Deep, kids, fnd, gN, nodeOf, lf1a, lf2]
  · simp [U, kids, fnd, gN, nodeOf, lf1a, lf2, L31.isD]
  · intro x hx hn
    simp at hx
    rcases hx with rfl | rfl
    · exact absurd rfl hn
    · simp [U, kids, fnd, gN, nodeOf, lf1a, lf2]
  · decide +kernel
  · decide +kernel
theorem chg_awake : chg 0 1 [lf1] [lf1a, lf2] tch0 = ([putS 0 0 (byt [lf1a, lf2]).length, subS 0 1 0], 0) := by
  unfold chg
  rw [if_pos ⟨tabok0, tabok1⟩]
  have : chL 0 [lf1] tch0 [lf1a, lf2] [lf1a, lf2].length = some ([], -1) := rfl
  rw [this]
  rfl
theorem awake31_c (hK : ∀ s', Ext σ s' → K (.bool true) s') : TCalls Try.prog 9 [] σ K := by
  have h1 : FewL ([⟨lf1, .full, .full, .full⟩].map fun y : TL => y.x) := ⟨by decide, by decide⟩
  have h2 : FewL ([⟨lf1a, .full, .full, .full⟩, ⟨lf2, .full, .full, .full⟩].map fun y : TL => y.x) := ⟨by decide, by decide⟩
  have e9 : smallS 9 3 = ⟨9, 4⟩ := by unfold smallS; rw [if_pos rfl]; unfold shpOf; congr 1; decide +kernel
  refine tcalls_walk Try.f9 _ [.tmp 0] Try.func9 rfl rfl rfl mixed (Nat.le_of_ble_eq_true rfl) rfl fun hlen => ?_
  repeat' (first | (simp -dsimp only [↓reduceIte, go_sem]) | (refine arr_intro fun _ => ?_) | (refine later_intro ⟨keeps_nil, ?_⟩) | (refine later_intro ⟨keeps_refl, ?_⟩) | (with_reducible refine keeps_go ?_ ?_; focus (first | (simp [keeps_cons, keeps_none, objs_app, objs_app0]; done) | (simp only [keeps_cons, keeps_none, objs_app0, objs_app, and_true]; first | rfl | exact ⟨rfl, rfl⟩ | exact ⟨rfl, rfl, rfl⟩))) | (with_reducible refine (And.intro (a := keeps _ _ _) ?_ ?_); focus (first | (simp [keeps_cons, keeps_none, objs_app, objs_app0]; done) | (simp only [keeps_cons, keeps_none, objs_app0, objs_app, and_true]; first | rfl | exact ⟨rfl, rfl⟩ | exact ⟨rfl, rfl, rfl⟩))) | (refine both_ways ?_ ?_) | (rw [wrap_i64 (by omega) (by omega)]) | (refine guardV_split (fun h => ?_) (fun h => ?_) <;> (try rw [h]) <;> (try simp at h) <;> (try (exfalso; omega))) | (refine build_slice L21.E29 rfl (by decide) (by intro v hv; simp at hv; try (subst hv; simp [go_sem])) ?_) | (refine build_slice L21.E44 rfl (by decide) (by intro v hv; simp at hv; try (subst hv; simp [go_sem])) ?_) | (refine build_slice E22 rfl (by decide) (by intro v hv; simp at hv; rcases hv with rfl | rfl <;> simp [go_sem]) ?_))
  refine change_c (old := [⟨lf1, .full, .full, .full⟩]) (l := [⟨lf1a, .full, .full, .full⟩, ⟨lf2, .full, .full, .full⟩]) (t := tch0) ⟨by decide, by decide⟩ ⟨by decide, by decide⟩ h1 h2 (fun s' tk hE => ?_)
  have ec : chg 0 1 ([⟨lf1, .full, .full, .full⟩].map fun y : TL => y.x) ([⟨lf1a, .full, .full, .full⟩, ⟨lf2, .full, .full, .full⟩].map fun y : TL => y.x) tch0 = ([putS 0 0 (byt [lf1a, lf2]).length, subS 0 1 0], 0) := chg_awake
  rw [ec]
  have k0 : (putS 0 0 (byt [lf1a, lf2]).length).kind = 4 := rfl
  have k1 : (subS 0 1 0).kind = 1 := rfl
  have d9 : decide (({ kind := 9, size := 4 } : Shp) = { kind := 9, size := 4 }) = true := by simp
  repeat' (first | (simp -dsimp only [↓reduceIte, go_sem, e9, bin_shp_eql, k0, k1, d9]) | (refine arr_intro fun _ => ?_) | (refine later_intro ⟨keeps_nil, ?_⟩) | (refine later_intro ⟨keeps_refl, ?_⟩) | (with_reducible refine keeps_go ?_ ?_; focus (first | (simp [keeps_cons, keeps_none, objs_app, objs_app0]; done) | (simp only [keeps_cons, keeps_none, objs_app0, objs_app, and_true]; first | rfl | exact ⟨rfl, rfl⟩ | exact ⟨rfl, rfl, rfl⟩))) | (with_reducible refine (And.intro (a := keeps _ _ _) ?_ ?_); focus (first | (simp [keeps_cons, keeps_none, objs_app, objs_app0]; done) | (simp only [keeps_cons, keeps_none, objs_app0, objs_app, and_true]; first | rfl | exact ⟨rfl, rfl⟩ | exact ⟨rfl, rfl, rfl⟩))) | (refine both_ways ?_ ?_) | (rw [wrap_i64 (by omega) (by omega)]) | (refine guardV_split (fun h => ?_) (fun h => ?_) <;> (try rw [h]) <;> (try simp at h) <;> (try (exfalso; omega))) | (refine small31_c ⟨by decide, by decide⟩ ?_) | (refine nth_get (i := 0) (y := shpV (putS 0 0 (byt [lf1a, lf2]).length)) rfl ?_) | (refine nth_get (i := 1) (y := shpV (subS 0 1 0)) rfl ?_))
  all_goals first
    | exact hK _ hE
    | trace_state
end
structure Trn where
  me : Int
  n : Int
  old : List TL
  l : List TL
  t : Tch
def trnPs (t0 t1 : Tk) (x : Trn) : List AV := [.int .i64 x.me, .int .i64 x.n, .slice t0 (x.old.map L21.leafV), .slice t1 (x.l.map L21.leafV), .agg (tchPs x.t)]
abbrev trnV (t0 t1 : Tk) (x : Trn) : AV := .agg (trnPs t0 t1 x)
theorem trnPs_0 {t0 t1 : Tk} {x : Trn} : (trnPs t0 t1 x)[0]? = some (.int .i64 x.me) := nr rfl
theorem trnAt_0 {t0 t1 : Tk} {x : Trn} {v : AV} : partIs Try.prog 26 (trnPs t0 t1 x) 0 v = fits Try.prog 3 v := by rw [partIs_of (o := 0) (T := 3) (by kernel_rfl)]; simp [trnPs, AV.sizes, AV.size]
theorem trnPs_1 {t0 t1 : Tk} {x : Trn} : (trnPs t0 t1 x)[1]? = some (.int .i64 x.n) := nr rfl
theorem trnAt_1 {t0 t1 : Tk} {x : Trn} {v : AV} : partIs Try.prog 26 (trnPs t0 t1 x) 1 v = fits Try.prog 3 v := by rw [partIs_of (o := 1) (T := 3) (by kernel_rfl)]; simp [trnPs, AV.sizes, AV.size]
theorem trnPs_2 {t0 t1 : Tk} {x : Trn} : (trnPs t0 t1 x)[2]? = some (.slice t0 (x.old.map L21.leafV)) := nr rfl
theorem trnAt_2 {t0 t1 : Tk} {x : Trn} {v : AV} : partIs Try.prog 26 (trnPs t0 t1 x) 2 v = fits Try.prog 22 v := by rw [partIs_of (o := 2) (T := 22) (by kernel_rfl)]; simp [trnPs, AV.sizes, AV.size]
theorem trnPs_3 {t0 t1 : Tk} {x : Trn} : (trnPs t0 t1 x)[3]? = some (.slice t1 (x.l.map L21.leafV)) := nr rfl
theorem trnAt_3 {t0 t1 : Tk} {x : Trn} {v : AV} : partIs Try.prog 26 (trnPs t0 t1 x) 3 v = fits Try.prog 22 v := by rw [partIs_of (o := 3) (T := 22) (by kernel_rfl)]; simp [trnPs, AV.sizes, AV.size]
theorem trnPs_4 {t0 t1 : Tk} {x : Trn} : (trnPs t0 t1 x)[4]? = some (.agg (tchPs x.t)) := nr rfl
theorem trnAt_4 {t0 t1 : Tk} {x : Trn} {v : AV} : partIs Try.prog 26 (trnPs t0 t1 x) 4 v = fits Try.prog 24 v := by rw [partIs_of (o := 4) (T := 24) (by kernel_rfl)]; simp [trnPs, AV.sizes, AV.size]
attribute [local go_sem] trnPs_0 trnAt_0 trnPs_1 trnAt_1 trnPs_2 trnAt_2 trnPs_3 trnAt_3 trnPs_4 trnAt_4 Try.underlying26 fits22

theorem chg_len {me n : Int} {old l : List Leaf} {t : Tch} (h : FewL l) : (chg me n old l t).1.length ≤ 9000 := by
  unfold chg
  split
  · split
    · rename_i st hst
      have h1 := chL_len (fun x hx => (h.2 x hx).1) hst
      have h2 := h.1
      simp only [chE, List.length_append, List.length_cons, List.length_nil]
      omega
    · simp
  · simp
section
variable {σ : AST} {K : AV → AST → Prop}
theorem awake31_d (hK : K (.bool true) σ) : TCalls Try.prog 9 [] σ K := by
  refine TCalls.drop ?_
  exact awake31_c fun s' h => ⟨h, rfl, hK⟩
theorem shapeChanges_c {c : Trn} {to tl : Tk} (h1 : Rng c.me) (h2 : Rng c.n) (hK : K (.bool true) σ) : TCalls Try.prog 3 [trnV to tl c] σ K := by
  refine TCalls.drop ?_
  have k0 : (σ.app [.cells (trnV to tl c)]).objs[σ.objs.length]? = some (.cells (trnV to tl c)) := objs_app0
  have hx : Ext σ (σ.app [.cells (trnV to tl c)]) := Ext.app _ _
  have fin : ∀ s', Ext σ s' → Ext σ s' ∧ (AV.bool true).noRef = true ∧ K (AV.bool true).strip σ := fun s' h => ⟨h, rfl, hK⟩
  refine tcalls_walk Try.f3 _ [.tmp 2] Try.func3 rfl rfl rfl mixed (Nat.le_of_ble_eq_true rfl) rfl fun hlen => ?_
  repeat' (first | (simp -dsimp only [↓reduceIte, go_sem]) | (refine arr_intro fun _ => ?_) | (refine later_intro ⟨keeps_nil, ?_⟩) | (refine later_intro ⟨keeps_refl, ?_⟩) | (with_reducible refine keeps_go ?_ ?_; focus (first | (simp [keeps_cons, keeps_none, objs_app, objs_app0]; done) | (simp only [keeps_cons, keeps_none, objs_app0, objs_app, and_true]; first | rfl | exact ⟨rfl, rfl⟩ | exact ⟨rfl, rfl, rfl⟩))) | (with_reducible refine (And.intro (a := keeps _ _ _) ?_ ?_); focus (first | (simp [keeps_cons, keeps_none, objs_app, objs_app0]; done) | (simp only [keeps_cons, keeps_none, objs_app0, objs_app, and_true]; first | rfl | exact ⟨rfl, rfl⟩ | exact ⟨rfl, rfl, rfl⟩))) | (refine both_ways ?_ ?_) | (rw [wrap_i64 (by omega) (by omega)]) | (refine guardV_split (fun h => ?_) (fun h => ?_) <;> (try rw [h]) <;> (try simp at h) <;> (try (exfalso; omega))) | (refine few_c (fun hf1 => ?_) (fun hf1 => ?_)) | (refine awake31_d ?_))
  · rename_i hf0
    refine change_c h1 h2 hf0 hf1 (fun s1 t1 hE1 => ?_)
    have c1 := cellAt_known (ext_knownV hE1 k0)
    have hln := chg_len (me := c.me) (n := c.n) (old := c.old.map (·.x)) (t := c.t) hf1
    generalize hch : chg c.me c.n (c.old.map (·.x)) (c.l.map (·.x)) c.t = r at hln ⊢
    repeat' (first | (simp -dsimp only [↓reduceIte, go_sem, c1]) | (refine arr_intro fun _ => ?_) | (refine later_intro ⟨keeps_nil, ?_⟩) | (refine later_intro ⟨keeps_refl, ?_⟩) | (with_reducible refine keeps_go ?_ ?_; focus (first | (simp [keeps_cons, keeps_none, objs_app, objs_app0]; done) | (simp only [keeps_cons, keeps_none, objs_app0, objs_app, and_true]; first | rfl | exact ⟨rfl, rfl⟩ | exact ⟨rfl, rfl, rfl⟩))) | (with_reducible refine (And.intro (a := keeps _ _ _) ?_ ?_); focus (first | (simp [keeps_cons, keeps_none, objs_app, objs_app0]; done) | (simp only [keeps_cons, keeps_none, objs_app0, objs_app, and_true]; first | rfl | exact ⟨rfl, rfl⟩ | exact ⟨rfl, rfl, rfl⟩))) | (refine both_ways ?_ ?_) | (rw [wrap_i64 (by omega) (by omega)]) | (refine guardV_split (fun h => ?_) (fun h => ?_) <;> (try rw [h]) <;> (try simp at h) <;> (try (exfalso; omega))) | (refine rchange_c h1 h2 hf0 hf1 (fun s2 t2 hE2 => ?_)))
    rw [hch]
    repeat' (first | (simp -dsimp only [↓reduceIte, go_sem]) | (refine arr_intro fun _ => ?_) | (refine later_intro ⟨keeps_nil, ?_⟩) | (refine later_intro ⟨keeps_refl, ?_⟩) | (with_reducible refine keeps_go ?_ ?_; focus (first | (simp [keeps_cons, keeps_none, objs_app, objs_app0]; done) | (simp only [keeps_cons, keeps_none, objs_app0, objs_app, and_true]; first | rfl | exact ⟨rfl, rfl⟩ | exact ⟨rfl, rfl, rfl⟩))) | (with_reducible refine (And.intro (a := keeps _ _ _) ?_ ?_); focus (first | (simp [keeps_cons, keeps_none, objs_app, objs_app0]; done) | (simp only [keeps_cons, keeps_none, objs_app0, objs_app, and_true]; first | rfl | exact ⟨rfl, rfl⟩ | exact ⟨rfl, rfl, rfl⟩))) | (refine both_ways ?_ ?_) | (rw [wrap_i64 (by omega) (by omega)]) | (refine guardV_split (fun h => ?_) (fun h => ?_) <;> (try rw [h]) <;> (try simp at h) <;> (try (exfalso; omega))) | (refine awake31_d ?_) | (refine same31_c hln ?_))
    all_goals exact fin _ (hx.trans (hE1.trans hE2))
  all_goals exact fin _ hx
end
end Go.Aff.L10

