import Derived.Test.YtlpgigmifjdpbaaG15
import Derived.Test.YtlpgigmifjdpbaaG13

/- Layer 16, walked: the reference's longest view, counts. -/
namespace Go.Aff.L16
open Go.Proofs Go.Aff Go.Aff.L09 Classical
set_option linter.unusedVariables false
set_option linter.unusedSimpArgs false
attribute [local go_sem] push_app app_app length_app cellAt_app cellAt_app0 set_app set_app0 objs_app objs_app0 List.cons_append List.nil_append List.length_cons List.length_nil List.getElem?_cons_zero List.getElem?_cons_succ List.set_cons_zero List.set_cons_succ
attribute [local go_sem] Try.underlying3 fits4 Try.underlying4 fits5 Try.underlying5 Try.underlying9 fits22 Try.underlying22 fits23 Try.underlying23 fits24 Try.underlying24 fits30 Try.underlying30 fits33 Try.underlying33 fits38 p38_0 p38_1 p38_2 p38_3 Try.underlying38 fits42 Try.underlying42 fits54 p54_0 p54_1 p54_2 Try.underlying54 fits57 p57_0 p57_1 Try.underlying57 fits58 Try.underlying58 fits60 p60_0 p60_1 p60_2 p60_3 p60_4 p60_5 Try.underlying60 fits66 Try.underlying66 fits69 Try.underlying69 fits47 p47_0 p47_1 p47_2 p47_3 Try.underlying47
attribute [local go_sem] fits3 fits9 sizes_cls
attribute [-go_sem] cellAt_new

attribute [local go_sem] line_size line_known
theorem line_shape {x : Line} : (lineV x).shape = .node [.leaf, .leaf, .leaf, .dig] := rfl
theorem lineV_strip (x : Line) : (lineV x).strip = lineV x := by simp [lineV, AV.strip, AV.strips]
theorem lineV_noRef (x : Line) : (lineV x).noRef = true := rfl
theorem fill38 {b : Int} {KV : AV → Prop} (hK : KV (.agg [.int .i64 0, .int .i64 b, .str [], .dig dig0])) : fillW Try.prog 38 [(1, .int .i64 b)] (.agg [.int .i64 0, .int .i64 0, .str [], .dig dig0]) KV := by
  refine fill_cons rfl (by rw [p38_1, fits3]; exact ⟨by simp [AV.sizes, AV.size], rfl, by simp [AV.size]⟩) rfl rfl ?_
  rw [fill_nil]; exact hK
theorem Longest_c {j n me : Nat} {tk : Tk} {l : List Line} {σ : AST} {K : AV → AST → Prop} (ho : σ.objs[j]? = some (.cells (xV n me tk l))) (hK : K (lineV (longest l)) σ) : TCalls Try.prog 25 [.ptr (some (j, []))] σ K := by
  refine TCalls.drop ?_
  refine tcalls_walk Try.f25 _ [.cell 2 38] Try.func25 rfl rfl rfl mixed (Nat.le_of_ble_eq_true rfl) rfl fun hlen => ?_
  have hc := cellAt_known_app ho
  unfold xV at hc
  simp -dsimp only [↓reduceIte, go_sem]
  rw [zero38]
  refine ⟨zeroOf38, later_intro ?_⟩
  simp -dsimp only [↓reduceIte, go_sem]
  refine ⟨zeroOf38, rfl, built38, ?_⟩
  rw [zero38]
  refine fill38 ?_
  simp -dsimp only [↓reduceIte, go_sem]
  rw [zero38]
  refine ⟨zeroOf38, later_intro ?_⟩
  simp -dsimp only [↓reduceIte, go_sem]
  refine awp_rounds (fun (i : Nat) τ s => s = σ.app [.cells (.agg [.int .i64 0, .int .i64 0, .str [], .dig dig0]), .cells (lineV (longest (l.take i)))] ∧ i ≤ l.length ∧ τ 0 = .ptr (some (j, [])) ∧ τ 2 = .ptr (some (σ.objs.length, [])) ∧ τ 3 = .ptr (some (σ.objs.length + 1, [])) ∧ τ 4 = .int .i64 i) (fun i => l.length - i) 0 ?_ ?_
  · refine ⟨rfl, by omega, ?_, ?_, ?_, ?_⟩ <;> (try simp only [go_sem]) <;> rfl
  · rintro i τ s ⟨rfl, hi, t0, t2, t3, t4⟩
    simp -dsimp only [↓reduceIte, go_sem, hc, t0, t2, t3, t4]
    refine arr_intro fun _ => ?_
    simp only [List.length_map]
    simp -dsimp only [↓reduceIte, go_sem, hc, t0, t2, t3, t4]
    have hll : l.length ≤ 9223372036854775807 := by
      have := ‹(l.map lineV).length ≤ maxL›
      simpa [maxL] using this
    refine boolW_split (fun hb => ?_) (fun hb => ?_)
    · have hb : i < l.length := by simp at hb; omega
      obtain ⟨x, hx⟩ := get_lt hb
      have htake : l.take (i + 1) = l.take i ++ [x] := by rw [List.take_add_one, hx]; rfl
      have hw : longest (l.take (i + 1)) = pickL (longest (l.take i)) x := by rw [htake, longest_snoc]
      unfold pickL at hw
      simp -dsimp only [↓reduceIte, go_sem, hc, t0, t2, t3, t4]
      refine awp_drawF [(0, 2), (1, 2), (2, 2), (3, 2), (4, 2), (5, 2), (6, 2), (7, 2), (8, 2), (9, 2), (10, 2), (11, 2), (12, 2)] (by kernel_rfl) ?_
      simp -dsimp only [↓reduceIte, go_sem, hc, t0, t2, t3, t4]
      refine nth_get hx ?_
      simp -dsimp only [↓reduceIte, go_sem, hc, t0, t2, t3, t4, lineV]
      refine arr_intro fun _ => ?_
      simp -dsimp only [↓reduceIte, go_sem, hc, t0, t2, t3, t4, lineV]
      refine arr_intro fun _ => ?_
      simp -dsimp only [↓reduceIte, go_sem, hc, t0, t2, t3, t4, lineV]
      refine boolW_split (fun g2 => ?_) (fun g2 => ?_)
      · have g2 : (longest (l.take i)).view.length < x.view.length := by simp at g2; omega
        rw [if_pos g2] at hw
        simp -dsimp only [↓reduceIte, go_sem, hc, t0, t2, t3, t4]
        refine nth_get hx ?_
        simp -dsimp only [↓reduceIte, go_sem, hc, t0, t2, t3, t4, line_shape]
        rw [wrap_i64 (by omega) (by omega)]
        first
        | exact ⟨i + 1, by omega, by rw [hw], by omega, rfl⟩
        | exact ⟨i + 1, by omega, by rw [hw]; rfl, by omega, rfl⟩
      · have g2 : ¬ (longest (l.take i)).view.length < x.view.length := by simp at g2; omega
        rw [if_neg g2] at hw
        simp -dsimp only [↓reduceIte, go_sem, hc, t0, t2, t3, t4]
        rw [wrap_i64 (by omega) (by omega)]
        first
        | exact later_intro ⟨i + 1, by omega, by rw [hw]; rfl, by omega, rfl⟩
        | (refine later_intro ⟨i + 1, by omega, by rw [hw]; rfl, by omega, ?_, ?_, ?_, ?_⟩ <;> (try simp only [go_sem, t0, t2, t3, t4]) <;> rfl)
    · have hb : i = l.length := by simp at hb; omega
      rw [hb, List.take_length]
      simp -dsimp only [↓reduceIte, go_sem, hc, t0, t2, t3, t4, line_shape]
      exact ⟨Ext.app _ _, lineV_noRef _, by rw [lineV_strip]; exact hK⟩

theorem Stable_c {j n me : Nat} {tk : Tk} {l : List Line} {σ : AST} {K : AV → AST → Prop} (ho : σ.objs[j]? = some (.cells (xV n me tk l))) (hn8 : n ≤ 8) (hK : K (slS (AV.int .i64) (stable n me l)) σ) : TCalls Try.prog 26 [.ptr (some (j, []))] σ K := by
  refine TCalls.drop ?_
  refine tcalls_walk Try.f26 _ [.tmp 2] Try.func26 rfl rfl rfl mixed (Nat.le_of_ble_eq_true rfl) rfl fun hlen => ?_
  simp -dsimp only [↓reduceIte, go_sem]
  have hsl : ∀ i, i ≤ n → ((stable n me l).take i).length = i := fun i hi => by simp [stable]; omega
  refine awp_rounds (fun (i : Nat) τ s => ∃ tk', i ≤ n ∧ Ext σ s ∧ tkNew σ tk' ∧ canApp s tk' i 1 ∧ (i = 0 → tk' = .full) ∧ (0 < i → ∃ k, tk' = .own k) ∧ τ 0 = .ptr (some (j, [])) ∧ τ 3 = .slice tk' (((stable n me l).take i).map (AV.int .i64)) ∧ τ 4 = .int .i64 i) (fun i => n - i) 0 ?_ ?_
  · refine ⟨.full, by omega, Ext.refl _, .inl rfl, trivial, fun _ => rfl, fun h => by omega, ?_, ?_, ?_⟩ <;> (try simp only [go_sem]) <;> rfl
  · rintro i τ s ⟨tk', hi, hx, htk, hcan, hz, hp, t0, t3, t4⟩
    have ho' := objs_known_ext ho hx
    have hc := cellAt_known ho'
    unfold xV at hc
    simp -dsimp only [↓reduceIte, go_sem, hc, t0, t3, t4]
    refine boolW_split (fun hb => ?_) (fun hb => ?_)
    · have hb : i < n := by simp at hb; omega
      simp -dsimp only [↓reduceIte, go_sem, hc, t0, t3, t4]
      refine awp_drawF [(0, 0), (1, 0), (2, 0), (4, 0), (5, 0), (6, 0), (7, 0), (3, 1), (8, 1), (9, 2), (10, 1), (11, 2)] (by kernel_rfl) ?_
      simp -dsimp only [↓reduceIte, go_sem, hc, t0, t3, t4]
      refine Word_c ho' ?_
      refine later_intro ⟨fun _ _ => rfl, ?_⟩
      simp -dsimp only [↓reduceIte, go_sem, hc, t0, t3, t4]
      refine Count_c ?_
      refine later_intro ⟨fun _ _ => rfl, ?_⟩
      simp -dsimp only [↓reduceIte, go_sem, hc, t0, t3, t4]
      refine build_slice E33 rfl (by decide) ?_ ?_
      · intro v hv
        simp at hv; subst hv
        exact ⟨by simp only [go_sem], rfl⟩
      simp -dsimp only [↓reduceIte, go_sem, hc, t0, t3, t4]
      have hl1 := hsl i (by omega)
      have htake : (stable n me l).take (i + 1) = (stable n me l).take i ++ [((cnt me (word l i) : Nat) : Int)] := by
        rw [List.take_add_one, stable, List.getElem?_map, List.getElem?_range hb]; rfl
      refine append_slice E33 (by rfl) (by rw [List.length_map, hl1]; exact hcan) (by intro v hv; simp at hv; subst hv; simp [AV.size]) size_ints (by rw [List.length_map, hl1]; simp; omega) (by rw [List.length_map, hl1]; simp [maxL]; omega) ?_
      rw [List.length_map, hl1]
      refine later_intro (later_intro ⟨fun k _ => by rw [show ∀ t, (growS s tk' t 1).objs = s.objs from fun t => by cases tk' <;> rfl], ?_⟩)
      simp -dsimp only [↓reduceIte, go_sem, hc, t0, t3, t4]
      rw [wrap_i64 (by omega) (by omega)]
      refine later_intro ⟨i + 1, by omega, growT s tk', by omega, hx.grow htk, htk.grow hx, canApp_grow hcan, fun h => by omega, fun _ => ?_, ?_, ?_, ?_⟩ <;> (try simp only [go_sem, t0, t3, t4]) <;> (try rfl)
      · rcases htk with h | ⟨k, h, _⟩
        · subst h; exact ⟨_, rfl⟩
        · subst h; exact ⟨_, rfl⟩
      · rw [htake, List.map_append]; rfl
    · have hb : i = n := by simp at hb; omega
      subst hb
      simp -dsimp only [↓reduceIte, go_sem, hc, t0, t3, t4]
      have hall : (stable i me l).take i = stable i me l := List.take_of_length_le (by simp [stable])
      rw [hall]
      refine ⟨hx, noRefs_leaf (fun _ => rfl), ?_⟩
      have hF : tkF (stable i me l) tk' := by
        have hl2 : (stable i me l).length = i := by simp [stable]
        by_cases h0 : i = 0
        · exact .inl ⟨List.length_eq_zero_iff.1 (by omega), hz h0⟩
        · refine .inr ⟨fun h => ?_, hp (by omega)⟩
          rw [h] at hl2; simp at hl2; omega
      rw [strip_tkF strip_int hF]
      exact hK

theorem Cut_c {j n me : Nat} {tk : Tk} {l : List Line} {σ : AST} {K : AV → AST → Prop} (ho : σ.objs[j]? = some (.cells (xV n me tk l))) (hn1 : 1 ≤ n) (hn8 : n ≤ 8) (hK : K (.int .i64 (minL (stable n me l))) σ) : TCalls Try.prog 27 [.ptr (some (j, []))] σ K := by
  refine tcalls_walk Try.f27 _ [.tmp 2] Try.func27 rfl rfl rfl mixed (Nat.le_of_ble_eq_true rfl) rfl fun hlen => ?_
  simp -dsimp only [↓reduceIte, go_sem]
  refine Stable_c ho hn8 ?_
  obtain ⟨tk', h⟩ := slS_tk (f := AV.int .i64) (l := stable n me l)
  rw [h]
  have hl2 : (stable n me l).length = n := by simp [stable]
  generalize stable n me l = L at hl2 hK ⊢
  obtain ⟨x, hx⟩ := get_lt (l := L) (i := 0) (by omega)
  simp -dsimp only [↓reduceIte, go_sem]
  refine nth_get (i := 0) hx ?_
  simp -dsimp only [↓reduceIte, go_sem]
  refine awp_rounds (fun (i : Nat) τ s => s = σ ∧ 1 ≤ i ∧ i ≤ L.length ∧ τ 3 = .slice tk' (L.map (AV.int .i64)) ∧ τ 4 = .int .i64 (minL (L.take i)) ∧ τ 5 = .int .i64 i) (fun i => L.length - i) 1 ?_ ?_
  · refine ⟨rfl, by omega, by omega, ?_, ?_, ?_⟩ <;> (try simp only [go_sem]) <;> (try rfl)
    cases L with
    | nil => simp at hx
    | cons a r => simp at hx; subst hx; rfl
  · rintro i τ s ⟨rfl, hi1, hi, t3, t4, t5⟩
    simp -dsimp only [↓reduceIte, go_sem, t3, t4, t5]
    refine arr_intro fun _ => ?_
    simp only [List.length_map]
    simp -dsimp only [↓reduceIte, go_sem, t3, t4, t5]
    refine boolW_split (fun hb => ?_) (fun hb => ?_)
    · have hb : i < L.length := by simp at hb; omega
      obtain ⟨y, hy⟩ := get_lt hb
      have htake : L.take (i + 1) = L.take i ++ [y] := by rw [List.take_add_one, hy]; rfl
      simp -dsimp only [↓reduceIte, go_sem, t3, t4, t5]
      refine nth_get hy ?_
      simp -dsimp only [↓reduceIte, go_sem, t3, t4, t5]
      rw [wrap_i64 (by omega) (by omega)]
      refine ⟨i + 1, by omega, by omega, by omega, ?_, rfl⟩
      rw [htake, minL_snoc (fun h => by
        rcases List.take_eq_nil_iff.1 h with h | h
        · omega
        · rw [h] at hb; simp at hb)]
    · have hb : i = L.length := by simp at hb; omega
      simp -dsimp only [↓reduceIte, go_sem, t3, t4, t5]
      rw [hb, List.take_length]
      exact hK

theorem Seen_c {j n me : Nat} {tk : Tk} {l : List Line} {σ : AST} {K : AV → AST → Prop} (ho : σ.objs[j]? = some (.cells (xV n me tk l))) (hn8 : n ≤ 8) (hK : K (.int .i64 ((seenTo me l n).foldl min 9999)) σ) : TCalls Try.prog 28 [.ptr (some (j, []))] σ K := by
  refine tcalls_walk Try.f28 _ [.tmp 2] Try.func28 rfl rfl rfl mixed (Nat.le_of_ble_eq_true rfl) rfl fun hlen => ?_
  have hc := cellAt_known ho
  unfold xV at hc
  simp -dsimp only [↓reduceIte, go_sem]
  refine awp_rounds (fun (i : Nat) τ s => s = σ ∧ i ≤ n ∧ τ 0 = .ptr (some (j, [])) ∧ τ 3 = .int .i64 ((seenTo me l i).foldl min 9999) ∧ τ 4 = .int .i64 i) (fun i => n - i) 0 ?_ ?_
  · refine ⟨rfl, by omega, ?_, ?_, ?_⟩ <;> (try simp only [go_sem]) <;> rfl
  · rintro i τ s ⟨rfl, hi, t0, t3, t4⟩
    simp -dsimp only [↓reduceIte, go_sem, hc, t0, t3, t4]
    refine boolW_split (fun hb => ?_) (fun hb => ?_)
    · have hb : i < n := by simp at hb; omega
      have hs := seenTo_succ (me := me) (l := l) (i := i)
      simp -dsimp only [↓reduceIte, go_sem, hc, t0, t3, t4]
      refine boolW_split (fun h1 => ?_) (fun h1 => ?_)
      · have h1 : i ≠ me := by simp at h1; omega
        rw [if_neg h1] at hs
        refine awp_drawS (id := 6) [0, 1, 2, 4, 5, 6, 7, 3, 8, 9, 10] (by kernel_rfl) ?_
        simp -dsimp only [↓reduceIte, go_sem, hc, t0, t3, t4]
        refine Own_c ho ?_
        simp -dsimp only [↓reduceIte, go_sem, hc, t0, t3, t4]
        refine Count_c ?_
        simp -dsimp only [↓reduceIte, go_sem, hc, t0, t3, t4]
        rw [wrap_i64 (by omega) (by omega)]
        first
        | (refine later_intro ⟨i + 1, by omega, rfl, by omega, ?_, ?_, ?_⟩ <;> (try simp only [go_sem, t0, t3, t4]) <;> (try rfl)
           rw [hs, List.foldl_append]; rfl)
        | (refine ⟨i + 1, by omega, by omega, ?_, rfl⟩
           rw [hs, List.foldl_append]; rfl)
      · have h1 : i = me := by simp at h1; omega
        rw [if_pos h1] at hs
        simp -dsimp only [↓reduceIte, go_sem, hc, t0, t3, t4]
        rw [wrap_i64 (by omega) (by omega)]
        refine later_intro ⟨i + 1, by omega, rfl, by omega, ?_, ?_, ?_⟩ <;> (try simp only [go_sem, t0, t3, t4]) <;> (try rfl)
        rw [hs]
    · have hb : i = n := by simp at hb; omega
      simp -dsimp only [↓reduceIte, go_sem, hc, t0, t3, t4]
      rw [hb]; exact hK
end Go.Aff.L16

/- Layer 16, walked: the reference learns; not too much. -/
namespace Go.Aff.L16
open Go.Proofs Go.Aff Go.Aff.L09 Classical
set_option linter.unusedVariables false
set_option linter.unusedSimpArgs false
attribute [local go_sem] push_app app_app length_app cellAt_app cellAt_app0 set_app set_app0 objs_app objs_app0 List.cons_append List.nil_append List.length_cons List.length_nil List.getElem?_cons_zero List.getElem?_cons_succ List.set_cons_zero List.set_cons_succ
attribute [local go_sem] Try.underlying3 fits4 Try.underlying4 fits5 Try.underlying5 Try.underlying9 fits22 Try.underlying22 fits23 Try.underlying23 fits24 Try.underlying24 fits30 Try.underlying30 fits33 Try.underlying33 fits38 p38_0 p38_1 p38_2 p38_3 Try.underlying38 fits42 Try.underlying42 fits54 p54_0 p54_1 p54_2 Try.underlying54 fits57 p57_0 p57_1 Try.underlying57 fits58 Try.underlying58 fits60 p60_0 p60_1 p60_2 p60_3 p60_4 p60_5 Try.underlying60 fits66 Try.underlying66 fits69 Try.underlying69 fits47 p47_0 p47_1 p47_2 p47_3 Try.underlying47
attribute [local go_sem] fits3 fits9 sizes_cls
attribute [-go_sem] cellAt_new

attribute [local go_sem] line_size line_known line_shape
theorem E22 : ElemT Try.prog 22 38 35 64 := ⟨rfl, by kernel_rfl, by kernel_rfl, ⟨.agg [.int .i64 0, .int .i64 0, .str [], .dig dig0], ⟨_, _, rfl, rfl, rfl, rfl, rfl⟩⟩, by decide⟩
theorem size_lines : ∀ {l : List Line}, ∀ v ∈ l.map lineV, v.size = 35 := by
  intro l v hv; obtain ⟨x, _, rfl⟩ := List.mem_map.1 hv; exact line_size.2
theorem growS_set {σ : AST} {tk : Tk} {n e j : Nat} {o : AObj} : (growS σ tk n e).set j o = growS (σ.set j o) tk n e := by cases tk <;> rfl

theorem LearnX_c {j n me : Nat} {tk : Tk} {l : List Line} {x : Line} {σ : AST} {K : AV → AST → Prop} (ho : σ.objs[j]? = some (.cells (xV n me tk l))) (hn : n ≤ 8) (hl : l.length ≤ 1000000)
    (hK : ∀ σ' tk', Ext (σ.set j (.cells (xV n me tk' (learned n l x)))) σ' → K (.int .i64 (learnE n l x)) σ') : TCalls Try.prog 39 [.ptr (some (j, [])), lineV x] σ K := by
  unfold lineV
  refine tcalls_walk Try.f39 _ [.tmp 4] Try.func39 rfl rfl rfl mixed (Nat.le_of_ble_eq_true rfl) rfl fun hlen => ?_
  have hj : j < σ.objs.length := (List.getElem?_eq_some_iff.1 ho).1
  have ho' := objs_known_app ho
  have hc := cellAt_known_app ho
  unfold xV at hc
  have bad : okB n x = false → K (.int .i64 2) (σ.app [.cells (lineV x)]) := fun h => by
    have e : learnE n l x = 2 := by unfold learnE; rw [if_pos h]
    have := hK (σ.app [.cells (lineV x)]) tk (by rw [learned, if_neg (by rw [e]; decide), set_same ho]; exact Ext.app _ _)
    rwa [e] at this
  rw [okB_eq] at bad
  simp -dsimp only [↓reduceIte, go_sem]
  refine awp_drawS (id := 1) [0, 1, 2, 3, 4, 5, 6, 7, 8, 9, 10, 11, 12, 13, 14, 15, 16, 17, 18, 19, 20, 21, 22, 23, 24, 25, 26, 27, 28, 29, 30, 31, 32, 33, 34, 35, 36, 37, 38, 39, 40] (by kernel_rfl) ?_
  simp -dsimp only [↓reduceIte, go_sem, hc]
  refine guardV_split (fun b1 => ?_) (fun b1 => ?_) <;> (try rw [b1])
  · have b1 : 0 ≤ x.src := by simp at b1; omega
    simp -dsimp only [↓reduceIte, go_sem, hc]
    refine guardV_split (fun b2 => ?_) (fun b2 => ?_) <;> (try rw [b2])
    · have b2 : x.src < n := by simp at b2; omega
      rw [decide_eq_true (show 0 ≤ x.src ∧ x.src < n from ⟨b1, b2⟩)] at bad
      simp only [Bool.true_and] at bad
      simp -dsimp only [↓reduceIte, go_sem, hc]
      refine guardV_split (fun b3 => ?_) (fun b3 => ?_) <;> (try rw [b3])
      · have b3 : 0 ≤ x.by_ := by simp at b3; omega
        simp -dsimp only [↓reduceIte, go_sem, hc]
        refine guardV_split (fun b4 => ?_) (fun b4 => ?_) <;> (try rw [b4])
        · have b4 : x.by_ < n := by simp at b4; omega
          rw [decide_eq_true (show 0 ≤ x.by_ ∧ x.by_ < n from ⟨b3, b4⟩)] at bad
          simp only [Bool.true_and] at bad
          simp -dsimp only [↓reduceIte, go_sem, hc]
          refine guardV_split (fun a3 => ?_) (fun a3 => ?_) <;> (try rw [a3])
          · have a3 : x.view ≠ [] := by simpa using a3
            rw [show (x.view != []) = true by simpa using a3] at bad
            simp only [Bool.true_and] at bad
            simp -dsimp only [↓reduceIte, go_sem, hc]
            refine Right_c (by omega) (by omega) ?_
            simp -dsimp only [↓reduceIte, go_sem, hc]
            refine boolW_split (fun a4 => ?_) (fun a4 => ?_)
            · have a4 : right x.view n = false := by simpa using a4
              simp -dsimp only [↓reduceIte, go_sem, hc]
              exact bad (by rw [a4]; rfl)
            · have a4 : right x.view n = true := by simpa using a4
              rw [a4] at bad
              simp only [Bool.true_and] at bad
              have hpos : 0 < x.view.length := List.length_pos_iff.2 a3
              obtain ⟨c, hcl⟩ := get_lt (l := x.view) (i := x.view.length - 1) (by omega)
              have hlast : x.view.getLast? = some c := by rw [List.getLast?_eq_getElem?]; exact hcl
              rw [hlast] at bad
              refine awp_drawS (id := 3) [0, 1, 2, 3, 4, 5, 6, 7, 8, 9, 10] (by kernel_rfl) ?_
              simp -dsimp only [↓reduceIte, go_sem, hc]
              refine fun hv => ?_
              refine later_intro ?_
              have hv : x.view.length ≤ 9223372036854775807 := hv
              simp -dsimp only [↓reduceIte, go_sem, hc]
              rw [wrap_i64 (by omega) (by omega), show (x.view.length : Int) - 1 = ((x.view.length - 1 : Nat) : Int) by omega]
              refine nth_get hcl ?_
              simp -dsimp only [↓reduceIte, go_sem, hc]
              have hcb := c.toNat_lt
              rw [wrap_i64 (by omega) (by omega)]
              refine boolW_split (fun a5 => ?_) (fun a5 => ?_)
              · have a5 : (c.toNat : Int) ≠ x.by_ := by simpa using a5
                simp -dsimp only [↓reduceIte, go_sem, hc]
                exact bad (by simpa using a5)
              · have a5 : (c.toNat : Int) = x.by_ := by simpa using a5
                have good : okB n x = true := by
                  rw [okB_eq, decide_eq_true (show 0 ≤ x.src ∧ x.src < n from ⟨b1, b2⟩), decide_eq_true (show 0 ≤ x.by_ ∧ x.by_ < n from ⟨b3, b4⟩), a4, hlast]
                  simp [a3, a5]
                refine awp_drawS (id := 5) [0, 3, 4, 1, 2, 5, 6] (by kernel_rfl) ?_
                simp -dsimp only [↓reduceIte, go_sem, hc]
                refine Longest_c (ho' _) ?_
                simp -dsimp only [↓reduceIte, go_sem, hc, lineV]
                refine Fit_c ?_
                by_cases a6 : fit (longest l).view x.view = true
                · rw [a6]
                  have e0 : learnE n l x = 0 := learnE_cases.2 ⟨good, a6⟩
                  rw [e0, learned, if_pos e0] at hK
                  simp -dsimp only [↓reduceIte, go_sem, hc]
                  refine awp_drawF [(0, 0), (1, 0), (2, 0), (3, 0), (4, 2), (5, 2), (7, 0), (8, 0), (6, 1), (9, 1), (10, 2), (11, 2), (12, 1)] (by kernel_rfl) ?_
                  simp -dsimp only [↓reduceIte, go_sem, hc]
                  refine build_slice (n := 0) (ps := []) E22 rfl (by decide) (fun v hv => by simp at hv) ?_
                  simp -dsimp only [↓reduceIte, go_sem, hc]
                  refine build_slice E22 rfl (by decide) ?_ ?_
                  · intro v hv
                    simp at hv; subst hv
                    exact ⟨by simp only [go_sem], rfl⟩
                  simp -dsimp only [↓reduceIte, go_sem, hc]
                  refine append_slice (t := 22) (u := 22) (tk := .full) (tk2 := tk) (xs := []) (ys := l.map lineV) E22 (by rfl) trivial size_lines (fun v hv => by simp at hv) (by simp; omega) (by simp [maxL]; omega) ?_
                  refine later_intro (later_intro ⟨fun k _ => by rw [growS_app]; rfl, ?_⟩)
                  simp -dsimp only [↓reduceIte, go_sem, hc]
                  refine append_slice E22 (by rfl) (by simpa using canGrow) (by intro v hv; simp at hv; subst hv; simp only [go_sem]) (by simpa using size_lines) (by simp; omega) (by simp [maxL]; omega) ?_
                  rw [growS_app, growT_app, growS_app, growT_app]
                  obtain ⟨σ3, h3⟩ : ∃ σ3, σ3 = growS (growS σ .full (l.map lineV).length 35) (growT σ .full) ((l.map lineV).length + [AV.agg [AV.int .i64 x.src, AV.int .i64 x.by_, AV.str x.view, AV.dig x.tag]].length) 35 := ⟨_, rfl⟩
                  have hobj : σ3.objs = σ.objs := by rw [h3]; rfl
                  have hx3 : ∀ o, Ext (σ.set j o) (σ3.set j o) := fun o => by
                    rw [h3, growS_set, growS_set]
                    exact Ext.grow (Ext.growFull _ _ _) (.inr ⟨_, rfl, Nat.le_refl _⟩)
                  have hlen3 : σ3.objs.length = σ.objs.length := by rw [hobj]
                  have ho3 : σ3.objs[j]? = some (.cells (xV n me tk l)) := by rw [hobj]; exact ho
                  rw [← h3]
                  generalize growT (growS σ .full (l.map lineV).length 35) (growT σ .full) = tk'
                  have hk3 : keeps [σ.objs.length] (σ.app [.cells (.agg [.int .i64 x.src, .int .i64 x.by_, .str x.view, .dig x.tag])]) (σ3.app [.cells (.agg [.int .i64 x.src, .int .i64 x.by_, .str x.view, .dig x.tag])]) := fun k hk => by
                    simp only [AST.app, hobj]
                  refine later_intro (later_intro ⟨by first | exact hk3 | (rw [growS_app]; exact hk3), ?_⟩)
                  have hc3 := cellAt_known_app ho3
                  have ho3' := objs_known_app ho3
                  unfold xV at hc3 ho3'
                  simp -dsimp only [↓reduceIte, go_sem, hc3, ho3']
                  have hs3 : ∀ d o, (σ3.app d).set j o = (σ3.set j o).app d := fun d o => by simp only [AST.set, AST.app, List.set_append_left _ _ (by rw [hlen3]; exact hj)]
                  refine later_intro ⟨fun k hk => ?_, ?_⟩
                  · obtain rfl := List.mem_singleton.1 hk
                    rw [hs3, ← hlen3, objs_app0]
                    have e : ∀ V, (σ3.set j V).objs.length = σ3.objs.length := fun V => by simp [AST.set]
                    rw [← e, objs_app0]
                  · rw [hs3]
                    simp -dsimp only [↓reduceIte, go_sem]
                    refine hK _ tk' ?_
                    rw [show xV n me tk' (l ++ [x]) = .agg [.int .i64 n, .int .i64 me, .slice tk' (l.map lineV ++ [.agg [.int .i64 x.src, .int .i64 x.by_, .str x.view, .dig x.tag]])] by rw [xV, List.map_append]; rfl]
                    exact (hx3 _).trans (Ext.app _ _)
                · have a6 : fit (longest l).view x.view = false := by simpa using a6
                  rw [a6]
                  simp -dsimp only [↓reduceIte, go_sem, hc]
                  have e : learnE n l x = 8 := by unfold learnE; rw [if_neg (by rw [good]; decide), if_pos a6]
                  have := hK (σ.app [.cells (lineV x)]) tk (by rw [learned, if_neg (by rw [e]; decide), set_same ho]; exact Ext.app _ _)
                  rwa [e] at this
          · have a3 : x.view = [] := by simpa using a3
            simp -dsimp only [↓reduceIte, go_sem, hc]
            exact bad (by rw [a3]; rfl)
        · have b4 : ¬ x.by_ < n := by simp at b4; omega
          simp -dsimp only [↓reduceIte, go_sem, hc]
          exact bad (by rw [decide_eq_false (fun h => b4 h.2)]; rfl)
      · have b3 : ¬ 0 ≤ x.by_ := by simp at b3; omega
        simp -dsimp only [↓reduceIte, go_sem, hc]
        exact bad (by rw [decide_eq_false (fun h => b3 h.1)]; rfl)
    · have b2 : ¬ x.src < n := by simp at b2; omega
      simp -dsimp only [↓reduceIte, go_sem, hc]
      exact bad (by rw [decide_eq_false (fun h => b2 h.2)]; rfl)
  · have b1 : ¬ 0 ≤ x.src := by simp at b1; omega
    simp -dsimp only [↓reduceIte, go_sem, hc]
    exact bad (by rw [decide_eq_false (fun h => b1 h.1)]; rfl)
end Go.Aff.L16

/- Layer 16, plainly: what is learned in a row. -/
namespace Go.Aff.L16
open Go.Aff Go.Aff.L09
set_option linter.unusedVariables false
set_option linter.unusedSimpArgs false

def light (x : Line) : Bool := decide (x.view.length < 600)
def fewL (l : List Line) : List Line := (l.take 25).filter light
def allL (n : Int) (F : List Line) : List Line := F.foldl (learned n) []
theorem fewL_len {l : List Line} : (fewL l).length ≤ 25 := by
  have h1 := List.length_filter_le light (l.take 25)
  have h2 : (l.take 25).length ≤ 25 := by rw [List.length_take]; omega
  exact Nat.le_trans h1 h2
theorem fewL_light {l : List Line} : ∀ x ∈ fewL l, x.view.length < 600 := by
  intro x hx
  have := (List.mem_filter.1 hx).2
  simpa [light] using this
theorem good_foldl {n : Int} : ∀ {F l : List Line}, Good n l → Good n (F.foldl (learned n) l)
  | [], l, h => h
  | x :: r, l, h => good_foldl (F := r) (good_learned h)
theorem good_all {n : Int} {F : List Line} : Good n (allL n F) := good_foldl good_nil
theorem all_snoc {n : Int} {F : List Line} {x : Line} : allL n (F ++ [x]) = learned n (allL n F) x := by simp [allL, List.foldl_append]
theorem learned_sub {n : Int} {l : List Line} {x y : Line} (h : y ∈ learned n l x) : y ∈ l ∨ y = x := by
  unfold learned at h; split at h
  · rcases List.mem_append.1 h with h | h
    · exact .inl h
    · exact .inr (by simpa using h)
  · exact .inl h
theorem foldl_sub {n : Int} {y : Line} : ∀ {F l : List Line}, y ∈ F.foldl (learned n) l → y ∈ l ∨ y ∈ F
  | [], l, h => .inl h
  | x :: r, l, h => by
    rcases foldl_sub (F := r) h with h | h
    · rcases learned_sub h with h | h
      · exact .inl h
      · exact .inr (by simp [h])
    · exact .inr (by simp [h])
theorem all_sub {n : Int} {F : List Line} {y : Line} (h : y ∈ allL n F) : y ∈ F := by
  rcases foldl_sub h with h | h
  · simp at h
  · exact h
theorem learned_len {n : Int} {l : List Line} {x : Line} : (learned n l x).length ≤ l.length + 1 := by
  unfold learned; split
  · simp
  · omega
theorem all_len {n : Int} : ∀ {F l : List Line}, (F.foldl (learned n) l).length ≤ l.length + F.length
  | [], l => by simp
  | x :: r, l => by
    have h1 := all_len (n := n) (F := r) (l := learned n l x)
    have h2 := learned_len (n := n) (l := l) (x := x)
    simp only [List.foldl_cons, List.length_cons]; omega
theorem allL_len {n : Int} {F : List Line} : (allL n F).length ≤ F.length := by
  have := all_len (n := n) (F := F) (l := [])
  simpa [allL] using this

theorem learned_word {n : Int} {l : List Line} {x : Line} {i : Int} (h : Good n l) : word l i <+: word (learned n l x) i := by
  unfold learned; split
  · rename_i h0; exact word_grows h (learnE_cases.1 h0).2
  · exact List.prefix_refl _
theorem learned_own {n : Int} {l : List Line} {x : Line} {i : Int} (h : Good n l) : own l i <+: own (learned n l x) i := by
  unfold learned; split
  · rename_i h0; exact own_grows h (learnE_cases.1 h0).2
  · exact List.prefix_refl _
theorem learned_long {n : Int} {l : List Line} {x : Line} : (longest l).view <+: (longest (learned n l x)).view := by
  unfold learned; split
  · rename_i h0; exact (longest_grows (learnE_cases.1 h0).2).1
  · exact List.prefix_refl _
theorem foldl_mono {α : Type} {f g : α → Int} : ∀ {l : List α} {a b : Int}, a ≤ b → (∀ x ∈ l, f x ≤ g x) → (l.map f).foldl min a ≤ (l.map g).foldl min b
  | [], a, b, h, _ => h
  | x :: r, a, b, h, hx => by
    simp only [List.map_cons, List.foldl_cons]
    refine foldl_mono (l := r) ?_ fun y hy => hx y (by simp [hy])
    have := hx x (by simp)
    omega
theorem minL_mono {α : Type} {f g : α → Int} : ∀ {l : List α}, (∀ x ∈ l, f x ≤ g x) → minL (l.map f) ≤ minL (l.map g)
  | [], _ => by simp [minL]
  | x :: r, h => by
    simp only [List.map_cons, minL]
    exact foldl_mono (h x (by simp)) fun y hy => h y (by simp [hy])
theorem cut_grows {n m : Nat} {l : List Line} {x : Line} (h : Good n l) : minL (stable n m l) ≤ minL (stable n m (learned n l x)) :=
  minL_mono fun i _ => by have := cnt_grows (c := m) (learned_word (x := x) (i := i) h); omega
theorem seen_grows {n m : Nat} {l : List Line} {x : Line} (h : Good n l) (hm : m < n) : minL (seenL n m l) ≤ minL (seenL n m (learned n l x)) := by
  rw [← seenTo_all hm, ← seenTo_all hm]
  exact minL_mono fun i _ => by have := cnt_grows (c := m) (learned_own (x := x) (i := i) h); omega
theorem learned_bad {n : Int} {l : List Line} {x : Line} (h : learnE n l x ≠ 0) : learned n l x = l := by rw [learned, if_neg h]

/-! ### Another order -/
def rotTo (L : List Line) (k i : Nat) : List Line := (List.range i).map fun (j : Nat) => (L[(j + k) % L.length]?).getD line0
theorem rotTo_succ {L : List Line} {k i : Nat} {x : Line} (h : L[(i + k) % L.length]? = some x) : rotTo L k (i + 1) = rotTo L k i ++ [x] := by
  unfold rotTo
  rw [List.range_succ, List.map_append]; simp [h]
theorem rotTo_sub {L : List Line} {k i : Nat} {x : Line} (hm : 0 < L.length) (h : x ∈ rotTo L k i) : x ∈ L := by
  obtain ⟨j, _, rfl⟩ := List.mem_map.1 h
  have hlt : (j + k) % L.length < L.length := Nat.mod_lt _ hm
  rw [List.getElem?_eq_getElem hlt]
  exact List.getElem_mem hlt
theorem rotTo_all {L : List Line} {k : Nat} : ∀ x, x ∈ rotTo L k L.length ↔ x ∈ L := by
  intro x
  by_cases hm : 0 < L.length
  · refine ⟨rotTo_sub hm, fun hx => ?_⟩
    obtain ⟨p, hp, rfl⟩ := List.mem_iff_getElem.1 hx
    refine List.mem_map.2 ⟨(p + (L.length - k % L.length)) % L.length, List.mem_range.2 (Nat.mod_lt _ hm), ?_⟩
    have e : ((p + (L.length - k % L.length)) % L.length + k) % L.length = p := by
      rw [Nat.mod_add_mod]
      have h1 : L.length * (k / L.length) + k % L.length = k := Nat.div_add_mod k L.length
      have h2 : k % L.length < L.length := Nat.mod_lt _ hm
      have h3 : p + (L.length - k % L.length) + k = p + L.length * (k / L.length + 1) := by
        rw [Nat.mul_add]
        generalize L.length * (k / L.length) = t at h1
        omega
      rw [h3, Nat.add_mul_mod_self_left, Nat.mod_eq_of_lt hp]
    rw [e, List.getElem?_eq_getElem hp]; rfl
  · have : L = [] := List.length_eq_zero_iff.1 (by omega)
    subst this; simp [rotTo]
end Go.Aff.L16

