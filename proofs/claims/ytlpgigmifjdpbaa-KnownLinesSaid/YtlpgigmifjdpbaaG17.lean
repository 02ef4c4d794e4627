import Derived.Test.YtlpgigmifjdpbaaG16

/- Layer 16, walked: both are made. -/
namespace Go.Aff.L16
open Go.Proofs Go.Aff Go.Aff.L09 Classical
set_option linter.unusedVariables false
set_option linter.unusedSimpArgs false
attribute [local go_sem] push_app app_app length_app cellAt_app cellAt_app0 set_app set_app0 objs_app objs_app0 List.cons_append List.nil_append List.length_cons List.length_nil List.getElem?_cons_zero List.getElem?_cons_succ List.set_cons_zero List.set_cons_succ
attribute [local go_sem] Try.underlying3 fits4 Try.underlying4 fits5 Try.underlying5 Try.underlying9 fits22 Try.underlying22 fits23 Try.underlying23 fits24 Try.underlying24 fits30 Try.underlying30 fits33 Try.underlying33 fits38 p38_0 p38_1 p38_2 p38_3 Try.underlying38 fits42 Try.underlying42 fits54 p54_0 p54_1 p54_2 Try.underlying54 fits57 p57_0 p57_1 Try.underlying57 fits58 Try.underlying58 fits60 p60_0 p60_1 p60_2 p60_3 p60_4 p60_5 Try.underlying60 fits66 Try.underlying66 fits69 Try.underlying69 fits47 p47_0 p47_1 p47_2 p47_3 Try.underlying47
attribute [local go_sem] fits3 fits9 sizes_cls
attribute [-go_sem] cellAt_new

attribute [local go_sem] line_size line_known line_shape

theorem few_c {l : List Line} {tk : Tk} {σ : AST} {K : AV → AST → Prop} (hK : K (slS lineV (fewL l)) σ) : TCalls Try.prog 11 [.slice tk (l.map lineV)] σ K := by
  refine TCalls.drop ?_
  refine tcalls_walk Try.f11 _ [.tmp 2] Try.func11 rfl rfl rfl mixed (Nat.le_of_ble_eq_true rfl) rfl fun hlen => ?_
  simp -dsimp only [↓reduceIte, go_sem]
  refine awp_rounds (fun (i : Nat) τ s => ∃ tk', i ≤ l.length ∧ i ≤ 25 ∧ Ext σ s ∧ tkNew σ tk' ∧ canApp s tk' ((l.take i).filter light).length 35 ∧ tkF ((l.take i).filter light) tk' ∧ τ 0 = .slice tk (l.map lineV) ∧ τ 3 = .slice tk' (((l.take i).filter light).map lineV) ∧ τ 4 = .int .i64 i) (fun i => l.length - i) 0 ?_ ?_
  · refine ⟨.full, by omega, by omega, Ext.refl _, .inl rfl, trivial, .inl ⟨rfl, rfl⟩, ?_, ?_, ?_⟩ <;> (try simp only [go_sem]) <;> rfl
  · rintro i τ s ⟨tk', hi, hi25, hx, htk, hcan, hF, t0, t3, t4⟩
    have hfl : ((l.take i).filter light).length ≤ 25 := Nat.le_trans (List.length_filter_le _ _) (by rw [List.length_take]; omega)
    simp -dsimp only [↓reduceIte, go_sem, t0, t3, t4]
    refine arr_intro fun _ => ?_
    simp only [List.length_map]
    simp -dsimp only [↓reduceIte, go_sem, t0, t3, t4]
    have done : (i = l.length ∨ i = 25) → K (slS lineV ((l.take i).filter light)) σ := fun h => by
      have : l.take i = l.take 25 := by
        rcases h with h | h
        · rw [h, List.take_length, List.take_of_length_le (by omega)]
        · rw [h]
      rw [this]; exact hK
    refine guardV_split (fun h1 => ?_) (fun h1 => ?_) <;> (try rw [h1])
    · have h1 : i < l.length := by simp at h1; omega
      simp -dsimp only [↓reduceIte, go_sem, t0, t3, t4]
      refine boolW_split (fun h2 => ?_) (fun h2 => ?_)
      · have h2 : i < 25 := by simp at h2; omega
        obtain ⟨x, hx1⟩ := get_lt h1
        have htake : (l.take (i + 1)).filter light = if light x then (l.take i).filter light ++ [x] else (l.take i).filter light := by
          rw [List.take_add_one, hx1, Option.toList_some, List.filter_append]
          cases hlx : light x <;> simp [hlx]
        simp -dsimp only [↓reduceIte, go_sem, t0, t3, t4]
        refine nth_get hx1 ?_
        simp -dsimp only [↓reduceIte, go_sem, t0, t3, t4, lineV]
        refine arr_intro fun _ => ?_
        simp -dsimp only [↓reduceIte, go_sem, t0, t3, t4]
        refine boolW_split (fun h3 => ?_) (fun h3 => ?_)
        · have h3 : light x = true := by unfold light; simp at h3 ⊢; omega
          rw [if_pos h3] at htake
          simp -dsimp only [↓reduceIte, go_sem, t0, t3, t4]
          refine nth_get hx1 ?_
          simp -dsimp only [↓reduceIte, go_sem, t0, t3, t4]
          refine build_slice E22 rfl (by decide) ?_ ?_
          · intro v hv
            simp at hv; subst hv
            exact ⟨by simp only [go_sem], rfl⟩
          simp -dsimp only [↓reduceIte, go_sem, t0, t3, t4]
          refine append_slice E22 (by rfl) (by rw [List.length_map]; exact hcan) (by intro v hv; simp at hv; subst hv; exact line_size.2) size_lines (by rw [List.length_map]; simp; omega) (by rw [List.length_map]; simp [maxL]; omega) ?_
          have e1 : ((l.take (i + 1)).filter light).map lineV = ((l.take i).filter light).map lineV ++ [lineV x] := by rw [htake, List.map_append]; rfl
          have e2 : ((l.take (i + 1)).filter light).length = ((l.take i).filter light).length + [lineV x].length := by rw [htake, List.length_append]; rfl
          refine later_intro ?_
          simp -dsimp only [↓reduceIte, go_sem, t0, t3, t4]
          rw [wrap_i64 (by omega) (by omega)]
          refine later_intro ⟨i + 1, by omega, growT s tk', by omega, by omega, hx.grow htk, htk.grow hx, by rw [e2, ← List.length_map (f := lineV)]; exact canApp_grow hcan, .inr ⟨by rw [htake]; simp, ?_⟩, ?_, ?_, ?_⟩ <;> (try simp only [go_sem, t0, t3, t4]) <;> (try rfl)
          · rcases htk with h | ⟨k, h, _⟩
            · subst h; exact ⟨_, rfl⟩
            · subst h; exact ⟨_, rfl⟩
          · rw [e1]
        · have h3 : light x = false := by unfold light; simp at h3 ⊢; omega
          rw [if_neg (by rw [h3]; decide)] at htake
          simp -dsimp only [↓reduceIte, go_sem, t0, t3, t4]
          rw [wrap_i64 (by omega) (by omega)]
          refine later_intro ⟨i + 1, by omega, tk', by omega, by omega, hx, htk, by rw [htake]; exact hcan, by rw [htake]; exact hF, ?_, ?_, ?_⟩ <;> (try simp only [go_sem, t0, t3, t4]) <;> (try rfl)
          rw [htake]
      · have h2 : i = 25 := by simp at h2; omega
        simp -dsimp only [↓reduceIte, go_sem, t0, t3, t4]
        refine ⟨hx, noRefs_leaf lineV_noRef, ?_⟩
        rw [strip_tkF lineV_strip hF]
        exact done (.inr h2)
    · have h1 : i = l.length := by simp at h1; omega
      simp -dsimp only [↓reduceIte, go_sem, t0, t3, t4]
      refine ⟨hx, noRefs_leaf lineV_noRef, ?_⟩
      rw [strip_tkF lineV_strip hF]
      exact done (.inl h1)

theorem fill54 {a b : Int} {KV : AV → Prop} (hK : KV (.agg [.int .i64 a, .int .i64 b, .slice .full []])) : fillW Try.prog 54 [(0, .int .i64 a), (1, .int .i64 b)] (.agg [.int .i64 0, .int .i64 0, .slice .full []]) KV := by
  refine fill_cons rfl (by rw [p54_0, fits3]; exact ⟨rfl, rfl, by simp [AV.size]⟩) rfl rfl ?_
  refine fill_cons rfl (by rw [p54_1, fits3]; exact ⟨by simp [AV.sizes, AV.size], rfl, by simp [AV.size]⟩) rfl rfl ?_
  rw [fill_nil]; exact hK

attribute [local go_sem ↓] res_ttt
theorem made_c {c me : Int} {l : List Line} {tk : Tk} {σ : AST} {K : AV → AST → Prop} (h0 : ¬ (2 ≤ c ∧ c ≤ 8 ∧ 0 ≤ me ∧ me < c) → K (.tuple [.ptr none, .ptr none, .bool true]) σ)
    (h1 : ∀ n m : Nat, c = n → me = m → 2 ≤ n → n ≤ 8 → m < n → ∀ (s : AST) (jk jx : Nat) (tkx : Tk), Ext σ s → jk ≠ jx → σ.objs.length ≤ jk → σ.objs.length ≤ jx → s.objs[jk]? = some (.cells (kV n m (allL n (fewL l)))) → s.objs[jx]? = some (.cells (xV n m tkx (allL n (fewL l)))) →
      K (.tuple [.ptr (some (jk, [])), .ptr (some (jx, [])), .bool true]) s) : TCalls Try.prog 19 [.int .i64 c, .int .i64 me, .slice tk (l.map lineV)] σ K := by
  refine tcalls_walk Try.f19 _ [.tmp 6, .tmp 7, .tmp 8] Try.func19 rfl rfl rfl mixed (Nat.le_of_ble_eq_true rfl) rfl fun hlen => ?_
  simp -dsimp only [↓reduceIte, go_sem]
  refine New_c (fun hbad => ?_) (fun n m hc hm hn2 hn8 hmn => ?_)
  · simp -dsimp only [↓reduceIte, go_sem]
    have fin : (((2 : Int) == 2)) = true := rfl
    refine guardV_split (fun a1 => ?_) (fun a1 => ?_) <;> (try rw [a1])
    · have a1 : 2 ≤ c := by simpa using a1
      simp -dsimp only [↓reduceIte, go_sem]
      refine guardV_split (fun a2 => ?_) (fun a2 => ?_) <;> (try rw [a2])
      · have a2 : c ≤ 8 := by simpa using a2
        simp -dsimp only [↓reduceIte, go_sem]
        refine guardV_split (fun a3 => ?_) (fun a3 => ?_) <;> (try rw [a3])
        · have a3 : 0 ≤ me := by simpa using a3
          have a4 : c ≤ me := by omega
          simp -dsimp only [↓reduceIte, go_sem]
          rw [decide_eq_true a4]
          simp -dsimp only [↓reduceIte, go_sem, fin]
          exact h0 hbad
        · simp -dsimp only [↓reduceIte, go_sem, fin]
          exact h0 hbad
      · simp -dsimp only [↓reduceIte, go_sem, fin]
        exact h0 hbad
    · simp -dsimp only [↓reduceIte, go_sem, fin]
      exact h0 hbad
  · subst hc hm
    have hng := hn2
    simp -dsimp only [↓reduceIte, go_sem]
    rw [show decide ((n : Int) < 2) = false by simp; omega]
    simp -dsimp only [↓reduceIte, go_sem]
    rw [show decide (8 < (n : Int)) = false by simp; omega]
    simp -dsimp only [↓reduceIte, go_sem]
    rw [show decide ((m : Int) < 0) = false by simp]
    simp -dsimp only [↓reduceIte, go_sem]
    rw [show decide ((n : Int) ≤ (m : Int)) = false by simp; omega]
    simp -dsimp only [↓reduceIte, go_sem]
    refine ⟨zeroOf54, rfl, built54, ?_⟩
    rw [zero54]
    refine fill54 ?_
    simp -dsimp only [↓reduceIte, go_sem]
    refine few_c ?_
    obtain ⟨tkf, hF⟩ := slS_tk (f := lineV) (l := fewL l)
    rw [hF]
    simp -dsimp only [↓reduceIte, go_sem]
    have hFl := fewL_len (l := l)
    refine awp_rounds (fun (i : Nat) τ s => ∃ tkx, i ≤ (fewL l).length ∧ Ext σ s ∧ s.objs[σ.objs.length]? = some (.cells (kV n m (allL n ((fewL l).take i)))) ∧ s.objs[σ.objs.length + 1]? = some (.cells (xV n m tkx (allL n ((fewL l).take i)))) ∧
      τ 2 = .slice tkf ((fewL l).map lineV) ∧ τ 9 = .ptr (some (σ.objs.length, [])) ∧ τ 11 = .ptr (some (σ.objs.length + 1, [])) ∧ τ 12 = .int .i64 i) (fun i => (fewL l).length - i) 0 ?_ ?_
    · refine ⟨.full, by omega, Ext.app _ _, ?_, ?_, ?_, ?_, ?_, ?_⟩ <;> (try simp only [go_sem]) <;> rfl
    · rintro i τ s ⟨tkx, hi, hx, hok, hox, t2, t9, t11, t12⟩
      simp -dsimp only [↓reduceIte, go_sem, t2, t9, t11, t12]
      refine arr_intro fun _ => ?_
      simp only [List.length_map]
      simp -dsimp only [↓reduceIte, go_sem, t2, t9, t11, t12]
      refine boolW_split (fun hb => ?_) (fun hb => ?_)
      · have hb : i < (fewL l).length := by simp at hb; omega
        obtain ⟨x, hx1⟩ := get_lt hb
        have htake : allL n ((fewL l).take (i + 1)) = learned n (allL n ((fewL l).take i)) x := by rw [List.take_add_one, hx1]; exact all_snoc
        have hLl : (allL n ((fewL l).take i)).length ≤ 1000000 := by
          have h1 := allL_len (n := n) (F := (fewL l).take i)
          rw [List.length_take] at h1; omega
        simp -dsimp only [↓reduceIte, go_sem, t2, t9, t11, t12]
        refine awp_drawF [(0, 2), (1, 2), (2, 2), (3, 2), (4, 2), (5, 2), (6, 2), (7, 2), (8, 2), (9, 2), (10, 2), (11, 2), (12, 2), (13, 2), (14, 2), (15, 2), (16, 2), (17, 2), (18, 2), (19, 2), (20, 2), (22, 0), (23, 0), (24, 0), (25, 0), (26, 0), (21, 1), (27, 1), (28, 2)] (by kernel_rfl) ?_
        simp -dsimp only [↓reduceIte, go_sem, t2, t9, t11, t12]
        refine nth_get hx1 ?_
        simp -dsimp only [↓reduceIte, go_sem, t2, t9, t11, t12, lineV]
        refine nth_get hx1 ?_
        simp -dsimp only [↓reduceIte, go_sem, t2, t9, t11, t12, lineV]
        refine nth_get hx1 ?_
        simp -dsimp only [↓reduceIte, go_sem, t2, t9, t11, t12, lineV]
        refine nth_get hx1 ?_
        simp -dsimp only [↓reduceIte, go_sem, t2, t9, t11, t12, lineV]
        refine nth_get hx1 ?_
        simp -dsimp only [↓reduceIte, go_sem, t2, t9, t11, t12]
        refine learn_c hok hn8 good_all fun s1 hs1 => ?_
        have hx1' : Ext σ s1 := (hx.set (Nat.le_refl _)).trans hs1
        have hset : ∀ o : AObj, (s.set σ.objs.length o).objs[σ.objs.length + 1]? = s.objs[σ.objs.length + 1]? := fun o => by simp only [AST.set]; rw [List.getElem?_set_ne (by omega)]
        have hjk : σ.objs.length < s.objs.length := (List.getElem?_eq_some_iff.1 hok).1
        have hok1 := objs_known_ext (j := σ.objs.length) (o := .cells (kV n m (learned n (allL n ((fewL l).take i)) x))) (by simp [AST.set, hjk]) hs1
        have hox1 := objs_known_ext ((hset _).trans hox) hs1
        refine later_intro ⟨keeps_nil, ?_⟩
        simp -dsimp only [↓reduceIte, go_sem, t2, t9, t11, t12]
        refine LearnX_c hox1 hn8 hLl fun s2 tk2 hs2 => ?_
        have hjx : σ.objs.length + 1 < s1.objs.length := (List.getElem?_eq_some_iff.1 hox1).1
        have hx2' : Ext σ s2 := (hx1'.set (by omega)).trans hs2
        have hset2 : ∀ o : AObj, (s1.set (σ.objs.length + 1) o).objs[σ.objs.length]? = s1.objs[σ.objs.length]? := fun o => by simp only [AST.set]; rw [List.getElem?_set_ne (by omega)]
        have hok2 := objs_known_ext ((hset2 _).trans hok1) hs2
        have hox2 := objs_known_ext (j := σ.objs.length + 1) (o := .cells (xV n m tk2 (learned n (allL n ((fewL l).take i)) x))) (by simp [AST.set, hjx]) hs2
        refine later_intro ⟨keeps_nil, ?_⟩
        rw [← htake] at hok2 hox2
        simp -dsimp only [↓reduceIte, go_sem, t2, t9, t11, t12]
        · refine later_intro ?_
          simp -dsimp only [↓reduceIte, go_sem, t2, t9, t11, t12]
          rw [wrap_i64 (by omega) (by omega)]
          exact ⟨i + 1, by omega, tk2, by omega, hx2', hok2, hox2, rfl⟩
      · have hb : i = (fewL l).length := by simp at hb; omega
        simp -dsimp only [↓reduceIte, go_sem, t2, t9, t11, t12]
        rw [hb, List.take_length] at hok hox
        exact h1 n m rfl rfl hn2 hn8 hmn s _ _ tkx hx (by omega) (by omega) (by omega) hok hox
end Go.Aff.L16

/- Layer 16, walked: awake. -/
namespace Go.Aff.L16
open Go.Proofs Go.Aff Go.Aff.L09 Classical
set_option linter.unusedVariables false
set_option linter.unusedSimpArgs false
attribute [local go_sem] push_app app_app length_app cellAt_app cellAt_app0 set_app set_app0 objs_app objs_app0 List.cons_append List.nil_append List.length_cons List.length_nil List.getElem?_cons_zero List.getElem?_cons_succ List.set_cons_zero List.set_cons_succ
attribute [local go_sem] Try.underlying3 fits4 Try.underlying4 fits5 Try.underlying5 Try.underlying9 fits22 Try.underlying22 fits23 Try.underlying23 fits24 Try.underlying24 fits30 Try.underlying30 fits33 Try.underlying33 fits38 p38_0 p38_1 p38_2 p38_3 Try.underlying38 fits42 Try.underlying42 fits54 p54_0 p54_1 p54_2 Try.underlying54 fits57 p57_0 p57_1 Try.underlying57 fits58 Try.underlying58 fits60 p60_0 p60_1 p60_2 p60_3 p60_4 p60_5 Try.underlying60 fits66 Try.underlying66 fits69 Try.underlying69 fits47 p47_0 p47_1 p47_2 p47_3 Try.underlying47
attribute [local go_sem] fits3 fits9 sizes_cls
attribute [-go_sem] cellAt_new

attribute [local go_sem] line_size line_known line_shape

theorem ints_c {a b : List Int} {ta tb : Tk} {σ : AST} {K : AV → AST → Prop} (hK : K (.bool (decide (a = b))) σ) : TCalls Try.prog 18 [.slice ta (a.map (AV.int .i64)), .slice tb (b.map (AV.int .i64))] σ K := by
  refine tcalls_walk Try.f18 _ [.tmp 4] Try.func18 rfl rfl rfl mixed (Nat.le_of_ble_eq_true rfl) rfl fun hlen => ?_
  have ha : a.length ≤ 9223372036854775807 := by
    have := hlen (.slice ta (a.map (AV.int .i64))) (by simp)
    simp only [lenOk, List.length_map, maxL] at this; exact this
  simp -dsimp only [↓reduceIte, go_sem]
  refine arr_intro fun _ => ?_
  simp -dsimp only [↓reduceIte, go_sem]
  refine arr_intro fun _ => ?_
  simp only [List.length_map]
  simp -dsimp only [↓reduceIte, go_sem]
  refine boolW_split (fun h1 => ?_) (fun h1 => ?_)
  · have h1 : a.length ≠ b.length := by simp at h1; omega
    simp -dsimp only [↓reduceIte, go_sem]
    rw [show decide (a = b) = false by simp; intro h; rw [h] at h1; exact h1 rfl] at hK
    exact hK
  · have h1 : a.length = b.length := by simp at h1; omega
    simp -dsimp only [↓reduceIte, go_sem]
    refine awp_rounds (fun (i : Nat) τ s => s = σ ∧ i ≤ a.length ∧ τ 0 = .slice ta (a.map (AV.int .i64)) ∧ τ 1 = .slice tb (b.map (AV.int .i64)) ∧ τ 5 = .int .i64 i ∧ a.take i = b.take i) (fun i => a.length - i) 0 ?_ ?_
    · refine ⟨rfl, by omega, ?_, ?_, ?_, by simp⟩ <;> simp only [go_sem] <;> rfl
    · rintro i τ s ⟨rfl, hi, t0, t1, t5, ht⟩
      simp -dsimp only [↓reduceIte, go_sem, t0, t1, t5]
      refine arr_intro fun _ => ?_
      simp only [List.length_map]
      simp -dsimp only [↓reduceIte, go_sem, t0, t1, t5]
      refine boolW_split (fun h2 => ?_) (fun h2 => ?_)
      · have h2 : i < a.length := by simp at h2; omega
        obtain ⟨x, hx⟩ := get_lt h2
        obtain ⟨y, hy⟩ := get_lt (l := b) (i := i) (by omega)
        simp -dsimp only [↓reduceIte, go_sem, t0, t1, t5]
        refine awp_drawS [0, 1, 2, 3, 4, 5, 6, 7, 8] (by kernel_rfl) ?_
        simp -dsimp only [↓reduceIte, go_sem, t0, t1, t5]
        refine nth_get hx ?_
        simp -dsimp only [↓reduceIte, go_sem, t0, t1, t5]
        refine nth_get hy ?_
        simp -dsimp only [↓reduceIte, go_sem, t0, t1, t5]
        refine boolW_split (fun h3 => ?_) (fun h3 => ?_)
        · have h3 : x ≠ y := by simpa using h3
          simp -dsimp only [↓reduceIte, go_sem, t0, t1, t5]
          rw [show decide (a = b) = false by simp; intro h; rw [h, hy] at hx; exact h3 (Option.some.inj hx).symm] at hK
          exact hK
        · have h3 : x = y := by simpa using h3
          simp -dsimp only [↓reduceIte, go_sem, t0, t1, t5]
          rw [wrap_i64 (by omega) (by omega)]
          refine later_intro ⟨i + 1, by omega, ?_⟩
          refine ⟨rfl, by omega, ?_, ?_, ?_, ?_⟩ <;> (try simp only [go_sem, t0, t1, t5]) <;> try rfl
          rw [List.take_add_one, List.take_add_one, ht, hx, hy, h3]
      · have h2 : i = a.length := by simp at h2; omega
        simp -dsimp only [↓reduceIte, go_sem, t0, t1, t5]
        rw [h2, List.take_length, h1, List.take_length] at ht
        rw [show decide (a = b) = true by simpa using ht] at hK
        exact hK

def dig5 : Dig := dig0.set 0 5
def l1 : Line := ⟨1, 1, [0, 1], dig5⟩
def l2 : Line := ⟨1, 1, [1], dig0⟩
theorem okB_l1 : okB ((2 : Nat) : Int) l1 = true := by decide
theorem okB_l2 : okB ((2 : Nat) : Int) l2 = true := by decide
theorem long_l1 : longest [l1] = l1 := by
  rw [show [l1] = [] ++ [l1] from rfl, longest_snoc, pickL, if_pos (by decide)]
theorem learn_l1 : learnE ((2 : Nat) : Int) [] l1 = 0 := learnE_cases.2 ⟨okB_l1, by simp [fit, longest, line0]⟩
theorem learned_l1 : learned ((2 : Nat) : Int) [] l1 = [l1] := by rw [learned, if_pos learn_l1]; rfl
theorem learn_l2 : learnE ((2 : Nat) : Int) [l1] l2 = 8 := by
  unfold learnE
  rw [if_neg (by rw [okB_l2]; decide), long_l1, if_pos]
  simp only [fit, l1, l2]; decide
theorem learned_l2 : learned ((2 : Nat) : Int) [l1] l2 = [l1] := by rw [learned, if_neg (by rw [learn_l2]; decide)]
theorem stable_l1 : stable 2 ((0 : Nat) : Int) [l1] = [0, 1] := by decide
theorem seen_l1 : minL (seenL 2 0 [l1]) = 1 := by decide
theorem cut_l1 : minL (stable 2 ((0 : Nat) : Int) [l1]) = 0 := by rw [stable_l1]; rfl
theorem good_l1 : Good ((2 : Nat) : Int) [l1] := by
  have := good_learned (x := l1) (good_nil (n := ((2 : Nat) : Int)))
  rwa [learned_l1] at this

theorem awake_c {σ : AST} {K : AV → AST → Prop} (hK : K (.bool true) σ) : TCalls Try.prog 10 [] σ K := by
  refine TCalls.drop ?_
  refine tcalls_walk Try.f10 _ [.tmp 0] Try.func10 rfl rfl rfl mixed (Nat.le_of_ble_eq_true rfl) rfl fun hlen => ?_
  simp -dsimp only [↓reduceIte, go_sem]
  refine New_c (fun h => absurd (by decide) h) (fun n m hc hm hn2 hn8 hmn => ?_)
  obtain rfl : n = 2 := by omega
  obtain rfl : m = 0 := by omega
  simp -dsimp only [↓reduceIte, go_sem]
  rw [zero30]
  refine ⟨zeroOf30, rfl, built30, ?_⟩
  refine ⟨⟨5, rfl, by rw [fits5]; exact ⟨rfl, by simp [AV.size]⟩⟩, by decide, by decide, by decide, ?_⟩
  rw [fill_nil]
  have ho0 : (σ.app [.cells (kV 2 0 [])]).objs[σ.objs.length]? = some (.cells (kV 2 0 [])) := objs_app0
  simp -dsimp only [↓reduceIte, go_sem]
  refine learn_c (x := l1) ho0 (by decide) good_nil fun s1 hs1 => ?_
  rw [learned_l1] at hs1
  rw [learn_l1]
  have ho1 := objs_known_ext (j := σ.objs.length) (o := .cells (kV 2 0 [l1])) (by simp [AST.set, AST.app]) hs1
  have hx1 : Ext σ s1 := ((Ext.app σ _).set (Nat.le_refl _)).trans hs1
  simp -dsimp only [↓reduceIte, go_sem]
  rw [zero30]
  refine ⟨zeroOf30, rfl, built30, ?_⟩
  rw [fill_nil]
  simp -dsimp only [↓reduceIte, go_sem]
  refine learn_c (x := l2) ho1 (by decide) good_l1 fun s2 hs2 => ?_
  rw [learned_l2, set_same ho1] at hs2
  rw [learn_l2]
  have ho2 := objs_known_ext ho1 hs2
  have hx2 : Ext σ s2 := hx1.trans hs2
  simp -dsimp only [↓reduceIte, go_sem]
  refine longest_c ho2 ?_
  rw [long_l1]
  simp -dsimp only [↓reduceIte, go_sem]
  rw [zero30]
  refine ⟨zeroOf30, later_intro ?_⟩
  simp -dsimp only [↓reduceIte, go_sem]
  have ho3 := objs_known_app ho2
  refine stable_c (ho3 _) (by decide) ?_
  rw [stable_l1]
  simp -dsimp only [↓reduceIte, go_sem]
  refine build_slice E33 rfl (by decide) ?_ ?_
  · intro v hv
    simp at hv
    rcases hv with rfl | rfl <;> exact ⟨by simp only [go_sem], rfl⟩
  simp -dsimp only [↓reduceIte, go_sem]
  have hsl : slS (AV.int .i64) [0, 1] = .slice .none ([0, 1].map (AV.int .i64)) := rfl
  rw [hsl]
  refine ints_c (a := [0, 1]) (b := [0, 1]) ?_
  rw [decide_eq_true rfl]
  simp -dsimp only [↓reduceIte, go_sem]
  refine cut_c (ho3 _) (by decide) (by decide) ?_
  rw [cut_l1]
  simp -dsimp only [↓reduceIte, go_sem]
  refine seen_c (ho3 _) (by decide) (by decide) (by decide) ?_
  rw [seen_l1]
  simp -dsimp only [↓reduceIte, go_sem]
  rw [show (l1.view == [0, 1]) = true from rfl]
  simp -dsimp only [↓reduceIte, go_sem]
  rw [show (l1.by_ == 1) = true from rfl]
  simp -dsimp only [↓reduceIte, go_sem]
  refine indexAddr_dig (i := 0) (d := l1.tag) Try.underlying30 (by rw [fits5]; exact ⟨rfl, by simp [AV.size]⟩) cellAt_app0 (by decide) ?_
  simp -dsimp only [↓reduceIte, go_sem, at_dig1]
  rw [show l1.tag.l[0]? = some (5 : UInt8) from rfl]
  simp -dsimp only [↓reduceIte, go_sem]
  exact ⟨hx2.trans (Ext.app _ _), rfl, hK⟩
end Go.Aff.L16

/- Layer 16, walked: nil knows nothing; forks. -/
namespace Go.Aff.L16
open Go.Proofs Go.Aff Go.Aff.L09 Classical
set_option linter.unusedVariables false
set_option linter.unusedSimpArgs false
attribute [local go_sem] push_app app_app length_app cellAt_app cellAt_app0 set_app set_app0 objs_app objs_app0 List.cons_append List.nil_append List.length_cons List.length_nil List.getElem?_cons_zero List.getElem?_cons_succ List.set_cons_zero List.set_cons_succ
attribute [local go_sem] Try.underlying3 fits4 Try.underlying4 fits5 Try.underlying5 Try.underlying9 fits22 Try.underlying22 fits23 Try.underlying23 fits24 Try.underlying24 fits30 Try.underlying30 fits33 Try.underlying33 fits38 p38_0 p38_1 p38_2 p38_3 Try.underlying38 fits42 Try.underlying42 fits54 p54_0 p54_1 p54_2 Try.underlying54 fits57 p57_0 p57_1 Try.underlying57 fits58 Try.underlying58 fits60 p60_0 p60_1 p60_2 p60_3 p60_4 p60_5 Try.underlying60 fits66 Try.underlying66 fits69 Try.underlying69 fits47 p47_0 p47_1 p47_2 p47_3 Try.underlying47
attribute [local go_sem] fits3 fits9 sizes_cls
attribute [-go_sem] cellAt_new

attribute [local go_sem] line_size line_known line_shape
theorem dig30 : digT Try.prog 30 = true := by kernel_rfl

theorem knownNone_c {x : Line} {σ : AST} {K : AV → AST → Prop} (hK : K (.bool true) σ) : TCalls Try.prog 8 [lineV x] σ K := by
  refine TCalls.drop ?_
  unfold lineV
  refine tcalls_walk Try.f8 _ [.tmp 2] Try.func8 rfl rfl rfl mixed (Nat.le_of_ble_eq_true rfl) rfl fun hlen => ?_
  simp -dsimp only [↓reduceIte, go_sem]
  refine longest_nil ?_
  simp -dsimp only [↓reduceIte, go_sem]
  rw [zero30]
  refine ⟨zeroOf30, later_intro ?_⟩
  simp -dsimp only [↓reduceIte, go_sem]
  refine awp_drawS (id := 3) [0,1,2,3,4,5,6,7,8,9,10,11,12,13,14,15,16,17,18,19,20,21,22,23,24,25,26,27,28,29,30,32,33,34,31,35,36,37,38,39,40,43,46,41,42,44,45,47,48,49,50,51] (by kernel_rfl) ?_
  simp -dsimp only [↓reduceIte, go_sem]
  refine awake_c ?_
  simp -dsimp only [↓reduceIte, go_sem]
  refine learn_nil ?_
  simp -dsimp only [↓reduceIte, go_sem]
  rw [zero30]
  refine ⟨zeroOf30, rfl, built30, ?_⟩
  rw [fill_nil]
  simp -dsimp only [↓reduceIte, go_sem, bin_dig_eql dig30]
  refine word_nil ?_
  simp -dsimp only [↓reduceIte, go_sem]
  refine own_nil ?_
  simp -dsimp only [↓reduceIte, go_sem]
  refine stable_nil ?_
  simp -dsimp only [↓reduceIte, go_sem]
  refine cut_nil ?_
  simp -dsimp only [↓reduceIte, go_sem]
  refine seen_nil ?_
  simp -dsimp only [↓reduceIte, go_sem]
  exact ⟨Ext.app _ _, rfl, hK⟩

theorem knownForks_c {a b : Line} {l : List Line} {tk : Tk} {σ : AST} {K : AV → AST → Prop} (hK : K (.bool true) σ) : TCalls Try.prog 4 [lineV a, lineV b, .slice tk (l.map lineV)] σ K := by
  refine TCalls.drop ?_
  have hll : ∀ x, (lineV x).at [0] = some (.int .i64 x.src) ∧ (lineV x).at [1] = some (.int .i64 x.by_) ∧ (lineV x).at [2] = some (.str x.view) ∧ (lineV x).at [3] = some (.dig x.tag) := fun x => ⟨rfl, rfl, rfl, rfl⟩
  unfold lineV
  refine tcalls_walk Try.f4 _ [.tmp 6] Try.func4 rfl rfl rfl mixed (Nat.le_of_ble_eq_true rfl) rfl fun hlen => ?_
  simp -dsimp only [↓reduceIte, go_sem]
  refine made_c (l := l) (fun h => absurd (by decide) h) (fun n m hn hm _ _ _ s jk jx tkx hx hjj hjk hjx hok hox => ?_)
  obtain rfl : n = 4 := by omega
  obtain rfl : m = 0 := by omega
  simp -dsimp only [↓reduceIte, go_sem]
  refine awake_c ?_
  simp -dsimp only [↓reduceIte, go_sem]
  have hca := fun p => cell_ext0 hx (v := .agg [.int .i64 a.src, .int .i64 a.by_, .str a.view, .dig a.tag]) rfl p
  have hcb := fun p => cell_ext (k := 1) hx (v := .agg [.int .i64 b.src, .int .i64 b.by_, .str b.view, .dig b.tag]) rfl p
  have hgood := good_all (n := ((4 : Nat) : Int)) (F := fewL l)
  generalize allL ((4 : Nat) : Int) (fewL l) = L at hok hox hgood
  simp -dsimp only [↓reduceIte, go_sem, hca, hcb]
  have hx0 : Ext σ s := (Ext.app _ _).trans hx
  refine arr_intro fun _ => ?_
  simp -dsimp only [↓reduceIte, go_sem, hca, hcb]
  refine guardV_split (fun ha => ?_) (fun ha => ?_) <;> (try rw [ha])
  · simp -dsimp only [↓reduceIte, go_sem, hca, hcb]
    refine arr_intro fun _ => ?_
    simp -dsimp only [↓reduceIte, go_sem, hca, hcb]
    refine boolW_split (fun hb => ?_) (fun hb => ?_)
    · simp -dsimp only [↓reduceIte, go_sem, hca, hcb]
      refine awake_c ?_
      simp -dsimp only [↓reduceIte, go_sem]
      exact ⟨hx0, rfl, hK⟩
    · simp -dsimp only [↓reduceIte, go_sem, hca, hcb]
      refine learn_c (x := a) hok (by decide) hgood fun s1 hs1 => ?_
      have hx1 := (hx.set (o := .cells (kV 4 0 (learned ((4 : Nat) : Int) L a))) hjk).trans hs1
      have hca1 := fun p => cell_ext0 hx1 (v := .agg [.int .i64 a.src, .int .i64 a.by_, .str a.view, .dig a.tag]) rfl p
      have hcb1 := fun p => cell_ext (k := 1) hx1 (v := .agg [.int .i64 b.src, .int .i64 b.by_, .str b.view, .dig b.tag]) rfl p
      have hok1 := objs_known_ext (j := jk) (o := .cells (kV 4 0 (learned ((4 : Nat) : Int) L a))) (by simp only [AST.set]; rw [List.getElem?_set_self (List.getElem?_eq_some_iff.1 hok).1]) hs1
      simp -dsimp only [↓reduceIte, go_sem, hca1, hcb1]
      refine learn_c (x := b) hok1 (by decide) (good_learned hgood) fun s2 hs2 => ?_
      have hx2 := (hx1.set (o := .cells (kV 4 0 (learned ((4 : Nat) : Int) (learned ((4 : Nat) : Int) L a) b))) hjk).trans hs2
      have hca2 := fun p => cell_ext0 hx2 (v := .agg [.int .i64 a.src, .int .i64 a.by_, .str a.view, .dig a.tag]) rfl p
      have hcb2 := fun p => cell_ext (k := 1) hx2 (v := .agg [.int .i64 b.src, .int .i64 b.by_, .str b.view, .dig b.tag]) rfl p
      have hxx : Ext σ s2 := (Ext.app _ _).trans hx2
      simp -dsimp only [↓reduceIte, go_sem, hca2, hcb2]
      refine Fit_c ?_
      by_cases hf : fit a.view b.view = true
      · rw [hf]
        simp -dsimp only [↓reduceIte, go_sem]
        exact ⟨hxx, rfl, hK⟩
      · have hf : fit a.view b.view = false := by simpa using hf
        rw [hf]
        simp -dsimp only [↓reduceIte, go_sem]
        refine guardV_split (fun he => ?_) (fun he => ?_) <;> (try rw [he])
        · have he : learnE ((4 : Nat) : Int) L a = 0 := by simpa using he
          simp -dsimp only [↓reduceIte, go_sem]
          by_cases h2 : learnE ((4 : Nat) : Int) (learned ((4 : Nat) : Int) L a) b = 0
          · exfalso
            have g2 := good_learned (x := b) (good_learned (x := a) hgood)
            have m1 : a ∈ learned ((4 : Nat) : Int) (learned ((4 : Nat) : Int) L a) b := by
              rw [learned, if_pos h2, learned, if_pos he]; simp
            have m2 : b ∈ learned ((4 : Nat) : Int) (learned ((4 : Nat) : Int) L a) b := by
              rw [learned, if_pos h2]; simp
            have := both_fit g2 m1 m2
            rw [hf] at this; cases this
          · rw [show (learnE ((4 : Nat) : Int) (learned ((4 : Nat) : Int) L a) b != 0) = true by simpa using h2]
            exact ⟨hxx, rfl, hK⟩
        · simp -dsimp only [↓reduceIte, go_sem]
          exact ⟨hxx, rfl, hK⟩
  · simp -dsimp only [↓reduceIte, go_sem, hca, hcb]
    refine awake_c ?_
    simp -dsimp only [↓reduceIte, go_sem]
    exact ⟨hx0, rfl, hK⟩
end Go.Aff.L16

/- Layer 16, walked: every call; lines. -/
namespace Go.Aff.L16
open Go.Proofs Go.Aff Go.Aff.L09 Classical
set_option linter.unusedVariables false
set_option linter.unusedSimpArgs false
attribute [local go_sem] push_app app_app length_app cellAt_app cellAt_app0 set_app set_app0 objs_app objs_app0 List.cons_append List.nil_append List.length_cons List.length_nil List.getElem?_cons_zero List.getElem?_cons_succ List.set_cons_zero List.set_cons_succ
attribute [local go_sem] Try.underlying3 fits4 Try.underlying4 fits5 Try.underlying5 Try.underlying9 fits22 Try.underlying22 fits23 Try.underlying23 fits24 Try.underlying24 fits30 Try.underlying30 fits33 Try.underlying33 fits38 p38_0 p38_1 p38_2 p38_3 Try.underlying38 fits42 Try.underlying42 fits54 p54_0 p54_1 p54_2 Try.underlying54 fits57 p57_0 p57_1 Try.underlying57 fits58 Try.underlying58 fits60 p60_0 p60_1 p60_2 p60_3 p60_4 p60_5 Try.underlying60 fits66 Try.underlying66 fits69 Try.underlying69 fits47 p47_0 p47_1 p47_2 p47_3 Try.underlying47
attribute [local go_sem] fits3 fits9 sizes_cls
attribute [-go_sem] cellAt_new

attribute [local go_sem] line_size line_known line_shape

def fourV (c me : Int) (tk : Tk) (l : List Line) (o : Int) : AV := .agg [.int .i64 c, .int .i64 me, .slice tk (l.map lineV), .int .i64 o]
theorem word_out {n : Nat} {l : List Line} {i : Int} (hg : Good n l) (hi : ¬ (0 ≤ i ∧ i < n)) : word l i = [] := by
  rcases word_mem (n := i) (l := l) with h | ⟨x, hx, h1, _⟩
  · exact h
  · exfalso
    have := (hg x hx).1
    rw [okB_eq] at this
    simp only [Bool.and_eq_true, decide_eq_true_eq] at this
    omega
theorem own_out {n : Nat} {l : List Line} {i : Int} (hg : Good n l) (hi : ¬ (0 ≤ i ∧ i < n)) : own l i = [] := by
  rcases own_mem (n := i) (l := l) with h | ⟨x, hx, h1, _⟩
  · exact h
  · exfalso
    have := (hg x hx).1
    rw [okB_eq] at this
    simp only [Bool.and_eq_true, decide_eq_true_eq] at this
    omega
theorem word_g {n : Nat} {l : List Line} {i : Int} (hg : Good n l) : (if 0 ≤ i ∧ i < n then word l i else []) = word l i := by
  split
  · rfl
  · rename_i h; exact (word_out hg h).symm
theorem own_g {n : Nat} {l : List Line} {i : Int} (hg : Good n l) : (if 0 ≤ i ∧ i < n then own l i else []) = own l i := by
  split
  · rfl
  · rename_i h; exact (own_out hg h).symm

theorem knownDoes_c {c me o : Int} {l : List Line} {tk : Tk} {σ : AST} {K : AV → AST → Prop} (hK : K (.bool true) σ) : TCalls Try.prog 5 [fourV c me tk l o] σ K := by
  refine TCalls.drop ?_
  unfold fourV
  refine tcalls_walk Try.f5 _ [.tmp 2] Try.func5 rfl rfl rfl mixed (Nat.le_of_ble_eq_true rfl) rfl fun hlen => ?_
  simp -dsimp only [↓reduceIte, go_sem]
  refine awp_drawS (id := 1) [0, 1, 2, 3, 4, 5, 6, 7, 8, 9, 10, 11] (by kernel_rfl) ?_
  simp -dsimp only [↓reduceIte, go_sem]
  refine made_c (l := l) (fun h => ?_) (fun n m hn hm hn2 hn8 hmn s jk jx tkx hx hjj hjk hjx hok hox => ?_)
  · simp -dsimp only [↓reduceIte, go_sem]
    refine awake_c ?_
    simp -dsimp only [↓reduceIte, go_sem]
    refine awake_c ?_
    simp -dsimp only [↓reduceIte, go_sem]
    exact ⟨Ext.app _ _, rfl, hK⟩
  · have hx0 : Ext σ s := (Ext.app _ _).trans hx
    have hgood := good_all (n := (n : Int)) (F := fewL l)
    have hlight : ∀ x ∈ allL n (fewL l), x.view.length ≤ 9999 := fun x hx => by
      have := fewL_light x (all_sub hx); omega
    generalize allL (n : Int) (fewL l) = L at hok hox hgood hlight
    simp -dsimp only [↓reduceIte, go_sem]
    refine awake_c ?_
    simp -dsimp only [↓reduceIte, go_sem]
    refine awp_rounds (fun (i : Nat) τ s' => s' = s ∧ i ≤ 10 ∧ τ 6 = .int .i64 o ∧ τ 7 = .ptr (some (jk, [])) ∧ τ 8 = .ptr (some (jx, [])) ∧ τ 10 = .int .i64 ((i : Int) - 1)) (fun i => 10 - i) 0 ?_ ?_
    · refine ⟨rfl, by omega, ?_, ?_, ?_, ?_⟩ <;> (try simp only [go_sem]) <;> rfl
    · rintro i τ s' ⟨rfl, hi, t6, t7, t8, t10⟩
      simp -dsimp only [↓reduceIte, go_sem, t6, t7, t8, t10]
      refine boolW_split (fun hb => ?_) (fun hb => ?_)
      · have hb : i < 10 := by simp at hb; omega
        simp -dsimp only [↓reduceIte, go_sem, t6, t7, t8, t10]
        refine word_c hok hn8 ?_
        rw [word_g hgood]
        simp -dsimp only [↓reduceIte, go_sem, t6, t7, t8, t10]
        refine Word_c hox ?_
        simp -dsimp only [↓reduceIte, go_sem, t6, t7, t8, t10]
        refine own_c hok hn8 ?_
        rw [own_g hgood]
        simp -dsimp only [↓reduceIte, go_sem, t6, t7, t8, t10]
        refine Own_c hox ?_
        simp -dsimp only [↓reduceIte, go_sem, t6, t7, t8, t10]
        refine later_intro ?_
        simp -dsimp only [↓reduceIte, go_sem, t6, t7, t8, t10]
        rw [wrap_i64 (by omega) (by omega)]
        refine ⟨i + 1, by omega, by omega, ?_⟩
        rw [show (i : Int) - 1 + 1 = ((i + 1 : Nat) : Int) - 1 by omega]
      · have hb : i = 10 := by simp at hb; omega
        simp -dsimp only [↓reduceIte, go_sem, t6, t7, t8, t10]
        refine longest_c hok ?_
        simp -dsimp only [↓reduceIte, go_sem, t6, t7, t8, t10]
        rw [zero30]
        refine ⟨zeroOf30, later_intro ?_⟩
        simp -dsimp only [↓reduceIte, go_sem, t6, t7, t8, t10]
        have hok1 := objs_known_app hok
        have hox1 := objs_known_app hox
        refine Longest_c (hox1 _) ?_
        simp -dsimp only [↓reduceIte, go_sem, t6, t7, t8, t10]
        rw [zero38]
        refine ⟨zeroOf38, later_intro ?_⟩
        simp -dsimp only [↓reduceIte, go_sem, t6, t7, t8, t10, lineV, bin_dig_eql dig30]
        refine stable_c (hok1 _) hn8 ?_
        obtain ⟨tks, hts⟩ := slS_tk (f := AV.int .i64) (l := stable n m L)
        rw [hts]
        simp -dsimp only [↓reduceIte, go_sem, t6, t7, t8, t10]
        refine Stable_c (hox1 _) hn8 ?_
        rw [hts]
        simp -dsimp only [↓reduceIte, go_sem, t6, t7, t8, t10]
        refine ints_c ?_
        rw [decide_eq_true rfl]
        simp -dsimp only [↓reduceIte, go_sem, t6, t7, t8, t10]
        refine cut_c (hok1 _) (by omega) hn8 ?_
        simp -dsimp only [↓reduceIte, go_sem, t6, t7, t8, t10]
        refine Cut_c (hox1 _) (by omega) hn8 ?_
        simp -dsimp only [↓reduceIte, go_sem, t6, t7, t8, t10]
        refine seen_c (hok1 _) hn2 hmn hn8 ?_
        simp -dsimp only [↓reduceIte, go_sem, t6, t7, t8, t10]
        refine Seen_c (hox1 _) hn8 ?_
        rw [seen_fold hmn hn2 hlight]
        simp -dsimp only [↓reduceIte, go_sem, t6, t7, t8, t10]
        refine word_c (hok1 _) hn8 ?_
        rw [word_g hgood]
        simp -dsimp only [↓reduceIte, go_sem, t6, t7, t8, t10]
        refine Word_c (hox1 _) ?_
        simp -dsimp only [↓reduceIte, go_sem, t6, t7, t8, t10]
        exact ⟨hx0.trans (Ext.app _ _), rfl, hK⟩
end Go.Aff.L16

/- Layer 16, walked: all words are beginnings of one view. -/
namespace Go.Aff.L16
open Go.Proofs Go.Aff Go.Aff.L09 Classical
set_option linter.unusedVariables false
set_option linter.unusedSimpArgs false
attribute [local go_sem] push_app app_app length_app cellAt_app cellAt_app0 set_app set_app0 objs_app objs_app0 List.cons_append List.nil_append List.length_cons List.length_nil List.getElem?_cons_zero List.getElem?_cons_succ List.set_cons_zero List.set_cons_succ
attribute [local go_sem] Try.underlying3 fits4 Try.underlying4 fits5 Try.underlying5 Try.underlying9 fits22 Try.underlying22 fits23 Try.underlying23 fits24 Try.underlying24 fits30 Try.underlying30 fits33 Try.underlying33 fits38 p38_0 p38_1 p38_2 p38_3 Try.underlying38 fits42 Try.underlying42 fits54 p54_0 p54_1 p54_2 Try.underlying54 fits57 p57_0 p57_1 Try.underlying57 fits58 Try.underlying58 fits60 p60_0 p60_1 p60_2 p60_3 p60_4 p60_5 Try.underlying60 fits66 Try.underlying66 fits69 Try.underlying69 fits47 p47_0 p47_1 p47_2 p47_3 Try.underlying47
attribute [local go_sem] fits3 fits9 sizes_cls
attribute [-go_sem] cellAt_new

attribute [local go_sem] line_size line_known line_shape

theorem knownLines_c {c me : Int} {l : List Line} {tk : Tk} {σ : AST} {K : AV → AST → Prop} (hK : K (.bool true) σ) : TCalls Try.prog 6 [.int .i64 c, .int .i64 me, .slice tk (l.map lineV)] σ K := by
  refine TCalls.drop ?_
  refine tcalls_walk Try.f6 _ [.tmp 6] Try.func6 rfl rfl rfl mixed (Nat.le_of_ble_eq_true rfl) rfl fun hlen => ?_
  simp -dsimp only [↓reduceIte, go_sem]
  refine made_c (l := l) (fun h => ?_) (fun n m hn hm hn2 hn8 hmn s jk jx tkx hx hjj hjk hjx hok hox => ?_)
  · simp -dsimp only [↓reduceIte, go_sem]
    refine awake_c ?_
    simp -dsimp only [↓reduceIte, go_sem]
    refine awake_c ?_
    simp -dsimp only [↓reduceIte, go_sem]
    exact ⟨Ext.refl _, rfl, hK⟩
  · subst hn hm
    have hgood := good_all (n := (n : Int)) (F := fewL l)
    have hlight : ∀ x ∈ allL n (fewL l), x.view.length ≤ 9999 := fun x hx => by
      have := fewL_light x (all_sub hx); omega
    generalize allL (n : Int) (fewL l) = L at hok hox hgood hlight
    simp -dsimp only [↓reduceIte, go_sem]
    refine awake_c ?_
    simp -dsimp only [↓reduceIte, go_sem]
    refine longest_c hok ?_
    simp -dsimp only [↓reduceIte, go_sem]
    rw [zero30]
    refine ⟨zeroOf30, later_intro ?_⟩
    simp -dsimp only [↓reduceIte, go_sem]
    have hok1 := objs_known_app hok [.cells (.dig (longest L).tag)]
    have hx1 : Ext σ (s.app [.cells (.dig (longest L).tag)]) := hx.trans (Ext.app _ _)
    generalize s.app [.cells (.dig (longest L).tag)] = s1 at hok1 hx1
    refine stable_c hok1 hn8 ?_
    obtain ⟨tks, hts⟩ := slS_tk (f := AV.int .i64) (l := stable n m L)
    rw [hts]
    have hsl : (stable n m L).length = n := by simp [stable]
    have hsg : ∀ i, i < n → (stable n m L)[i]? = some ((cnt m (word L i) : Nat) : Int) := fun i hi => by
      rw [stable, List.getElem?_map, List.getElem?_range hi]; rfl
    simp -dsimp only [↓reduceIte, go_sem]
    refine awp_rounds (fun (i : Nat) τ s' => s' = s1 ∧ i ≤ n ∧ τ 0 = .int .i64 n ∧ τ 1 = .int .i64 m ∧ τ 7 = .ptr (some (jk, [])) ∧ τ 10 = .str (longest L).view ∧ τ 13 = .slice tks ((stable n m L).map (AV.int .i64)) ∧ τ 14 = .int .i64 i) (fun i => n - i) 0 ?_ ?_
    · refine ⟨rfl, by omega, ?_, ?_, ?_, ?_, ?_, ?_⟩ <;> (try simp only [go_sem]) <;> rfl
    · rintro i τ s' ⟨rfl, hi, t0, t1, t7, t10, t13, t14⟩
      simp -dsimp only [↓reduceIte, go_sem, t0, t1, t7, t10, t13, t14]
      refine boolW_split (fun hb => ?_) (fun hb => ?_)
      · have hb : i < n := by simp at hb; omega
        have g1 : goes (longest L).view (word L i) = true := by simp only [goes, decide_eq_true_eq]; exact word_long hgood
        have g2 : goes (word L i) (own L i) = true := by simp only [goes, decide_eq_true_eq]; exact own_word hgood
        simp -dsimp only [↓reduceIte, go_sem, t0, t1, t7, t10, t13, t14]
        refine word_c hok1 hn8 ?_
        rw [word_g hgood]
        simp -dsimp only [↓reduceIte, go_sem, t0, t1, t7, t10, t13, t14]
        refine awp_drawS (id := 10) [0, 1, 2, 3, 4, 5, 6, 7, 8, 9, 10, 11, 12, 13, 14, 15, 16, 17, 18, 19, 20, 21, 22, 23, 24, 25, 26, 27] (by kernel_rfl) ?_
        simp -dsimp only [↓reduceIte, go_sem, t0, t1, t7, t10, t13, t14]
        refine Goes_c ?_
        rw [g1]
        simp -dsimp only [↓reduceIte, go_sem, t0, t1, t7, t10, t13, t14]
        refine own_c hok1 hn8 ?_
        rw [own_g hgood]
        simp -dsimp only [↓reduceIte, go_sem, t0, t1, t7, t10, t13, t14]
        refine Goes_c ?_
        rw [g2]
        simp -dsimp only [↓reduceIte, go_sem, t0, t1, t7, t10, t13, t14]
        refine arr_intro fun _ => ?_
        simp only [List.length_map, hsl]
        simp -dsimp only [↓reduceIte, go_sem, t0, t1, t7, t10, t13, t14]
        refine nth_get (hsg i hb) ?_
        simp -dsimp only [↓reduceIte, go_sem, t0, t1, t7, t10, t13, t14]
        refine Count_c ?_
        simp -dsimp only [↓reduceIte, go_sem, t0, t1, t7, t10, t13, t14]
        have hpl : ∀ k : Nat, 1 ≤ k → k ≤ cnt m (word L i) → place (longest L).view m k = place (word L i) m k := fun k h1 h2 => by
          obtain ⟨more, hmore⟩ := word_long (n := i) hgood
          rw [← hmore]; exact place_append h1 h2
        have hcl : cnt m (word L i) ≤ 9999 := Nat.le_trans cnt_le (by
          rcases word_mem (n := (i : Int)) (l := L) with h | ⟨x, hx, _, h⟩
          · rw [h]; simp
          · rw [h]; exact hlight x hx)
        have next : ∀ (τ' : Env) (k : Nat), True := fun _ _ => trivial
        refine awp_rounds (fun (k : Nat) τ s'' => s'' = s' ∧ k ≤ cnt m (word L i) ∧ τ 0 = .int .i64 n ∧ τ 1 = .int .i64 m ∧ τ 7 = .ptr (some (jk, [])) ∧ τ 10 = .str (longest L).view ∧ τ 13 = .slice tks ((stable n m L).map (AV.int .i64)) ∧ τ 14 = .int .i64 i ∧ τ 15 = .str (word L i) ∧ τ 16 = .int .i64 ((k + 1 : Nat) : Int)) (fun k => cnt m (word L i) - k) 0 ?_ ?_
        · refine ⟨rfl, by omega, ?_, ?_, ?_, ?_, ?_, ?_, ?_, ?_⟩ <;> (try simp only [go_sem, t0, t1, t7, t10, t13, t14]) <;> rfl
        · rintro k τ' s'' ⟨rfl, hk, u0, u1, u7, u10, u13, u14, u15, u16⟩
          have out : ∀ τ'' : Env, True := fun _ => trivial
          simp -dsimp only [↓reduceIte, go_sem, u0, u1, u7, u10, u13, u14, u15, u16]
          refine nth_get (hsg i hb) ?_
          simp -dsimp only [↓reduceIte, go_sem, u0, u1, u7, u10, u13, u14, u15, u16]
          refine guardV_split (fun hc1 => ?_) (fun hc1 => ?_) <;> (try rw [hc1])
          · have hc1 : k + 1 ≤ cnt m (word L i) := by simp at hc1; omega
            simp -dsimp only [↓reduceIte, go_sem, u0, u1, u7, u10, u13, u14, u15, u16]
            refine boolW_split (fun hc2 => ?_) (fun hc2 => ?_)
            · simp -dsimp only [↓reduceIte, go_sem, u0, u1, u7, u10, u13, u14, u15, u16]
              refine Place_c ?_
              simp -dsimp only [↓reduceIte, go_sem, u0, u1, u7, u10, u13, u14, u15, u16]
              refine Place_c ?_
              simp -dsimp only [↓reduceIte, go_sem, u0, u1, u7, u10, u13, u14, u15, u16]
              rw [hpl (k + 1) (by omega) hc1]
              rw [bne_self_eq_false]
              simp -dsimp only [↓reduceIte, go_sem, u0, u1, u7, u10, u13, u14, u15, u16]
              rw [wrap_i64 (by omega) (by omega)]
              refine later_intro ⟨k + 1, by omega, rfl, by omega, ?_, ?_, ?_, ?_, ?_, ?_, ?_, ?_⟩ <;> (try simp only [go_sem, u0, u1, u7, u10, u13, u14, u15, u16]) <;> rfl
            · simp -dsimp only [↓reduceIte, go_sem, u0, u1, u7, u10, u13, u14, u15, u16]
              rw [wrap_i64 (by omega) (by omega)]
              refine later_intro ⟨i + 1, by omega, rfl, by omega, ?_, ?_, ?_, ?_, ?_, ?_⟩ <;> (try simp only [go_sem, u0, u1, u7, u10, u13, u14, u15, u16]) <;> rfl
          · simp -dsimp only [↓reduceIte, go_sem, u0, u1, u7, u10, u13, u14, u15, u16]
            rw [wrap_i64 (by omega) (by omega)]
            refine later_intro ⟨i + 1, by omega, rfl, by omega, ?_, ?_, ?_, ?_, ?_, ?_⟩ <;> (try simp only [go_sem, u0, u1, u7, u10, u13, u14, u15, u16]) <;> rfl
      · have hb : i = n := by simp at hb; omega
        simp -dsimp only [↓reduceIte, go_sem, t0, t1, t7, t10, t13, t14]
        exact ⟨hx1, rfl, hK⟩
end Go.Aff.L16

