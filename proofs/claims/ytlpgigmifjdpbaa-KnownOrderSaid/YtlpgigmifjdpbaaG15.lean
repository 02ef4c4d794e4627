import Derived.Test.YtlpgigmifjdpbaaG14

/- Layer 16, walked: stable, cut, seen. -/
namespace Go.Aff.L16
open Go.Proofs Go.Aff Go.Aff.L09 Classical
set_option linter.unusedVariables false
set_option linter.unusedSimpArgs false
attribute [local go_sem] push_app app_app length_app cellAt_app cellAt_app0 set_app set_app0 objs_app objs_app0 List.cons_append List.nil_append List.length_cons List.length_nil List.getElem?_cons_zero List.getElem?_cons_succ List.set_cons_zero List.set_cons_succ
attribute [local go_sem] Try.underlying3 fits4 Try.underlying4 fits5 Try.underlying5 Try.underlying9 fits22 Try.underlying22 fits23 Try.underlying23 fits24 Try.underlying24 fits30 Try.underlying30 fits33 Try.underlying33 fits38 p38_0 p38_1 p38_2 p38_3 Try.underlying38 fits42 Try.underlying42 fits54 p54_0 p54_1 p54_2 Try.underlying54 fits57 p57_0 p57_1 Try.underlying57 fits58 Try.underlying58 fits60 p60_0 p60_1 p60_2 p60_3 p60_4 p60_5 Try.underlying60 fits66 Try.underlying66 fits69 Try.underlying69 fits47 p47_0 p47_1 p47_2 p47_3 Try.underlying47
attribute [local go_sem] fits3 fits9 sizes_cls
attribute [-go_sem] cellAt_new

theorem cls_words {l : List Line} {n me : Nat} (hn : n ≤ 8) : (((cls l).take n).map fun p => ((cnt me p.1 : Nat) : Int)) = stable n me l := by
  unfold cls stable
  rw [← List.map_take, List.take_range, Nat.min_eq_left hn, List.map_map]; rfl
theorem cls_owns {l : List Line} {n me : Nat} (hn : n ≤ 8) : (((cls l).take n).map fun p => ((cnt me p.2 : Nat) : Int)) = owns n me l := by
  unfold cls owns
  rw [← List.map_take, List.take_range, Nat.min_eq_left hn, List.map_map]; rfl

theorem stable_c {j n me : Nat} {l : List Line} {σ : AST} {K : AV → AST → Prop} (ho : σ.objs[j]? = some (.cells (kV n me l))) (hn : n ≤ 8) (hK : K (slS (AV.int .i64) (stable n me l)) σ) : TCalls Try.prog 13 [.ptr (some (j, []))] σ K := by
  refine tcalls_walk Try.f13 _ [.tmp 2] Try.func13 rfl rfl rfl mixed (Nat.le_of_ble_eq_true rfl) rfl fun hlen => ?_
  simp -dsimp only [↓reduceIte, go_sem]
  refine counts_c (g := fun p => p.1) (fun p => pickw_c) ho hn ?_
  rw [cls_words hn]
  obtain ⟨tk, h⟩ := slS_tk (f := AV.int .i64) (l := stable n me l)
  rw [h] at hK ⊢
  simp -dsimp only [↓reduceIte, go_sem]
  exact hK
theorem stable_nil {σ : AST} {K : AV → AST → Prop} (hK : K (.slice .full []) σ) : TCalls Try.prog 13 [.ptr none] σ K := by
  refine tcalls_walk Try.f13 _ [.tmp 2] Try.func13 rfl rfl rfl mixed (Nat.le_of_ble_eq_true rfl) rfl fun hlen => ?_
  simp -dsimp only [↓reduceIte, go_sem]
  exact hK

theorem min_c {L : List Int} {tk : Tk} {σ : AST} {K : AV → AST → Prop} (hL : L ≠ []) (hK : K (.int .i64 (minL L)) σ) : TCalls Try.prog 33 [.slice tk (L.map (AV.int .i64))] σ K := by
  have hpos : 0 < L.length := List.length_pos_iff.2 hL
  refine tcalls_walk Try.f33 _ [.tmp 2] Try.func33 rfl rfl rfl mixed (Nat.le_of_ble_eq_true rfl) rfl fun hlen => ?_
  simp -dsimp only [↓reduceIte, go_sem]
  refine arr_intro fun _ => ?_
  simp only [List.length_map]
  simp -dsimp only [↓reduceIte, go_sem]
  refine boolW_split (fun h1 => ?_) (fun h1 => ?_)
  · simp at h1; omega
  · obtain ⟨x, hx⟩ := get_lt hpos
    have hx' : (L.map (AV.int .i64))[0]? = some (.int .i64 x) := by rw [List.getElem?_map, hx]; rfl
    have hll : L.length ≤ 9223372036854775807 := by
      have := ‹(L.map (AV.int .i64)).length ≤ maxL›
      simpa [maxL] using this
    simp -dsimp only [↓reduceIte, go_sem]
    refine nth_get (i := 0) hx ?_
    simp -dsimp only [↓reduceIte, go_sem]
    refine awp_rounds (fun (i : Nat) τ s => s = σ ∧ 1 ≤ i ∧ i ≤ L.length ∧ τ 0 = .slice tk (L.map (AV.int .i64)) ∧ τ 3 = .int .i64 (minL (L.take i)) ∧ τ 4 = .int .i64 i) (fun i => L.length - i) 1 ?_ ?_
    · refine ⟨rfl, by omega, by omega, ?_, ?_, ?_⟩ <;> (try simp only [go_sem]) <;> (try rfl)
      cases L with
      | nil => simp at hx
      | cons a r => simp at hx; subst hx; rfl
    · rintro i τ s ⟨rfl, hi1, hi, t0, t3, t4⟩
      simp -dsimp only [↓reduceIte, go_sem, t0, t3, t4]
      refine arr_intro fun _ => ?_
      simp only [List.length_map]
      simp -dsimp only [↓reduceIte, go_sem, t0, t3, t4]
      refine boolW_split (fun hb => ?_) (fun hb => ?_)
      · have hb : i < L.length := by simp at hb; omega
        obtain ⟨y, hy⟩ := get_lt hb
        have htake : L.take (i + 1) = L.take i ++ [y] := by rw [List.take_add_one, hy]; rfl
        simp -dsimp only [↓reduceIte, go_sem, t0, t3, t4]
        refine nth_get hy ?_
        simp -dsimp only [↓reduceIte, go_sem, t0, t3, t4]
        rw [wrap_i64 (by omega) (by omega)]
        refine ⟨i + 1, by omega, by omega, by omega, ?_, ?_⟩
        · rw [htake, minL_snoc (fun h => by
            rcases List.take_eq_nil_iff.1 h with h | h
            · omega
            · exact hL h)]
        · rfl
      · have hb : i = L.length := by simp at hb; omega
        simp -dsimp only [↓reduceIte, go_sem, t0, t3, t4]
        rw [hb, List.take_length]
        exact hK

theorem cut_c {j n me : Nat} {l : List Line} {σ : AST} {K : AV → AST → Prop} (ho : σ.objs[j]? = some (.cells (kV n me l))) (hn1 : 1 ≤ n) (hn : n ≤ 8) (hK : K (.int .i64 (minL (stable n me l))) σ) : TCalls Try.prog 14 [.ptr (some (j, []))] σ K := by
  refine tcalls_walk Try.f14 _ [.tmp 2] Try.func14 rfl rfl rfl mixed (Nat.le_of_ble_eq_true rfl) rfl fun hlen => ?_
  simp -dsimp only [↓reduceIte, go_sem]
  refine stable_c ho hn ?_
  obtain ⟨tk, h⟩ := slS_tk (f := AV.int .i64) (l := stable n me l)
  rw [h]
  simp -dsimp only [↓reduceIte, go_sem]
  refine min_c ?_ ?_
  · intro h0
    have : (stable n me l).length = n := by simp [stable]
    rw [h0] at this; simp at this; omega
  simp -dsimp only [↓reduceIte, go_sem]
  exact hK
theorem cut_nil {σ : AST} {K : AV → AST → Prop} (hK : K (.int .i64 0) σ) : TCalls Try.prog 14 [.ptr none] σ K := by
  refine tcalls_walk Try.f14 _ [.tmp 2] Try.func14 rfl rfl rfl mixed (Nat.le_of_ble_eq_true rfl) rfl fun hlen => ?_
  simp -dsimp only [↓reduceIte, go_sem]
  exact hK
theorem seen_nil {σ : AST} {K : AV → AST → Prop} (hK : K (.int .i64 0) σ) : TCalls Try.prog 15 [.ptr none] σ K := by
  refine tcalls_walk Try.f15 _ [.tmp 2] Try.func15 rfl rfl rfl mixed (Nat.le_of_ble_eq_true rfl) rfl fun hlen => ?_
  simp -dsimp only [↓reduceIte, go_sem]
  exact hK

theorem seen_c {j n me : Nat} {l : List Line} {σ : AST} {K : AV → AST → Prop} (ho : σ.objs[j]? = some (.cells (kV n me l))) (hn1 : 2 ≤ n) (hm : me < n) (hn : n ≤ 8) (hK : K (.int .i64 (minL (seenL n me l))) σ) : TCalls Try.prog 15 [.ptr (some (j, []))] σ K := by
  refine TCalls.drop ?_
  refine tcalls_walk Try.f15 _ [.tmp 2] Try.func15 rfl rfl rfl mixed (Nat.le_of_ble_eq_true rfl) rfl fun hlen => ?_
  have hc := cellAt_known ho
  unfold kV at hc
  simp -dsimp only [↓reduceIte, go_sem]
  refine counts_c (g := fun p => p.2) (fun p => picko_c) ho hn ?_
  rw [cls_owns hn]
  obtain ⟨tk, h⟩ := slS_tk (f := AV.int .i64) (l := owns n me l)
  rw [h]
  simp -dsimp only [↓reduceIte, go_sem, hc]
  refine awp_drawF [(0, 2), (1, 2), (2, 2), (3, 2), (4, 2), (5, 2), (6, 2), (8, 0), (9, 0), (10, 0), (11, 0), (12, 0), (13, 0), (14, 0), (7, 1), (15, 1), (16, 1), (17, 2)] (by kernel_rfl) ?_
  simp -dsimp only [↓reduceIte, go_sem, hc]
  refine build_slice (n := 0) (ps := []) E33 rfl (by decide) (fun v hv => by simp at hv) ?_
  simp -dsimp only [↓reduceIte, go_sem, hc]
  have hol : (owns n me l).length = n := by simp [owns]
  refine slice_hi E33 ⟨_, Try.underlying3⟩ size_ints (by rw [List.length_map, hol]; omega) fun tk1 => ?_
  simp -dsimp only [↓reduceIte, go_sem, hc]
  rw [wrap_i64 (by omega) (by omega), show (me : Int) + 1 = ((me + 1 : Nat) : Int) by omega]
  refine slice_lo E33 ⟨_, Try.underlying3⟩ size_ints (by rw [List.length_map, hol]; omega) fun tk2 => ?_
  simp -dsimp only [↓reduceIte, go_sem, hc]
  rw [← List.map_take, ← List.map_drop]
  refine append_slice (t := 33) (u := 33) (tk := .full) (tk2 := tk1) (xs := []) (ys := ((owns n me l).take me).map (AV.int .i64)) E33 (by rfl) trivial size_ints (fun v hv => by simp at hv) (by simp; omega) (by simp [maxL]; omega) ?_
  refine later_intro (later_intro ⟨fun _ _ => rfl, ?_⟩)
  simp -dsimp only [↓reduceIte, go_sem, hc]
  refine append_slice E33 (by rfl) canGrow size_ints size_ints (by simp; omega) (by simp [maxL]; omega) ?_
  refine later_intro (later_intro ⟨fun _ _ => rfl, ?_⟩)
  simp -dsimp only [↓reduceIte, go_sem, hc]
  rw [← List.map_append]
  refine min_c ?_ ?_
  · intro h0
    have h1 := congrArg List.length h0
    rw [List.length_append, List.length_take, List.length_drop, List.length_nil] at h1; omega
  refine later_intro ⟨fun _ _ => rfl, ?_⟩
  simp -dsimp only [↓reduceIte, go_sem, hc]
  exact ⟨Ext.grow (Ext.growFull _ _ _) (.inr ⟨_, rfl, Nat.le_refl _⟩), rfl, hK⟩
end Go.Aff.L16

/- Layer 16, walked: Learn. -/
namespace Go.Aff.L16
open Go.Proofs Go.Aff Go.Aff.L09 Classical
set_option linter.unusedVariables false
set_option linter.unusedSimpArgs false
attribute [local go_sem] push_app app_app length_app cellAt_app cellAt_app0 set_app set_app0 objs_app objs_app0 List.cons_append List.nil_append List.length_cons List.length_nil List.getElem?_cons_zero List.getElem?_cons_succ List.set_cons_zero List.set_cons_succ
attribute [local go_sem] Try.underlying3 fits4 Try.underlying4 fits5 Try.underlying5 Try.underlying9 fits22 Try.underlying22 fits23 Try.underlying23 fits24 Try.underlying24 fits30 Try.underlying30 fits33 Try.underlying33 fits38 p38_0 p38_1 p38_2 p38_3 Try.underlying38 fits42 Try.underlying42 fits54 p54_0 p54_1 p54_2 Try.underlying54 fits57 p57_0 p57_1 Try.underlying57 fits58 Try.underlying58 fits60 p60_0 p60_1 p60_2 p60_3 p60_4 p60_5 Try.underlying60 fits66 Try.underlying66 fits69 Try.underlying69 fits47 p47_0 p47_1 p47_2 p47_3 Try.underlying47
attribute [local go_sem] fits3 fits9 sizes_cls
attribute [-go_sem] cellAt_new

theorem set_same {σ : AST} {j : Nat} {o : AObj} (h : σ.objs[j]? = some o) : σ.set j o = σ := by
  obtain ⟨hj, he⟩ := List.getElem?_eq_some_iff.1 h
  simp only [AST.set]
  have : σ.objs.set j o = σ.objs := by rw [← he, List.set_getElem_self]
  rw [this]
def kW (n me : Nat) (C : List (List UInt8 × List UInt8)) (lo : List UInt8) (b : Int) (t : Dig) : AV := .agg [.int .i64 n, .int .i64 me, .agg (C.map clV), .str lo, .int .i64 b, .dig t]
theorem kV_eq {n me : Nat} {l : List Line} : kV n me l = kW n me (cls l) (longest l).view (longest l).by_ (longest l).tag := rfl
theorem store_w {n me : Nat} {C : List (List UInt8 × List UInt8)} {lo : List UInt8} {b : Int} {t : Dig} {i : Nat} {w o v : List UInt8} {KV : AV → Prop} (hi : C[i]? = some (w, o)) (hK : KV (kW n me (C.set i (v, o)) lo b t)) :
    storeC Try.prog 9 (some (.cells (kW n me C lo b t))) [2, i, 0] (.str v) KV := by
  have hi' : (C.map clV)[i]? = some (clV (w, o)) := by rw [List.getElem?_map, hi]; rfl
  have hset : (C.map clV).set i (clV (v, o)) = (C.set i (v, o)).map clV := by rw [List.map_set]
  unfold storeC kW
  simp only [AV.at, List.getElem?_cons_succ, List.getElem?_cons_zero, Option.bind_some, hi', clV]
  refine ⟨by rw [fits9]; exact ⟨rfl, by simp [AV.size]⟩, by simp [AV.shape], rfl, ?_, ?_⟩
  · simp [setOk, hi', clV]
  · have e : (AV.agg [.int .i64 n, .int .i64 me, .agg (C.map clV), .str lo, .int .i64 b, .dig t]).setAt [2, i, 0] (.str v) = kW n me (C.set i (v, o)) lo b t := by
      rw [kW, ← hset]
      simp [AV.setAt, hi', clV]
    rw [e]; exact hK
theorem store_o {n me : Nat} {C : List (List UInt8 × List UInt8)} {lo : List UInt8} {b : Int} {t : Dig} {i : Nat} {w o v : List UInt8} {KV : AV → Prop} (hi : C[i]? = some (w, o)) (hK : KV (kW n me (C.set i (w, v)) lo b t)) :
    storeC Try.prog 9 (some (.cells (kW n me C lo b t))) [2, i, 1] (.str v) KV := by
  have hi' : (C.map clV)[i]? = some (clV (w, o)) := by rw [List.getElem?_map, hi]; rfl
  have hset : (C.map clV).set i (clV (w, v)) = (C.set i (w, v)).map clV := by rw [List.map_set]
  unfold storeC kW
  simp only [AV.at, List.getElem?_cons_succ, List.getElem?_cons_zero, Option.bind_some, hi', clV]
  refine ⟨by rw [fits9]; exact ⟨rfl, by simp [AV.size]⟩, by simp [AV.shape], rfl, ?_, ?_⟩
  · simp [setOk, hi', clV]
  · have e : (AV.agg [.int .i64 n, .int .i64 me, .agg (C.map clV), .str lo, .int .i64 b, .dig t]).setAt [2, i, 1] (.str v) = kW n me (C.set i (w, v)) lo b t := by
      rw [kW, ← hset]
      simp [AV.setAt, hi', clV]
    rw [e]; exact hK

theorem okB_eq {n : Nat} {x : Line} : okB n x = (decide (0 ≤ x.src ∧ x.src < n) && (decide (0 ≤ x.by_ ∧ x.by_ < n) && ((x.view != []) && (right x.view n && decide (x.view.getLast?.map (fun b => (b.toNat : Int)) = some x.by_))))) := by
  unfold okB
  rw [show decide (0 ≤ x.src ∧ x.src < (n : Int) ∧ 0 ≤ x.by_ ∧ x.by_ < (n : Int)) = (decide (0 ≤ x.src ∧ x.src < n) && decide (0 ≤ x.by_ ∧ x.by_ < n)) by
    rw [← Bool.decide_and]; exact decide_eq_decide.2 (by constructor <;> intro h <;> omega)]
  simp only [Bool.and_assoc]

/-- What the clients' rows become. -/
theorem cls_step {n : Int} {l : List Line} {x : Line} {i : Nat} (hg : Good n l) (hf : fit (longest l).view x.view = true) (hi : x.src = i) (hi8 : i < 8) :
    cls (l ++ [x]) = (cls l).set i (longer (word l i) x.view, if x.by_ = x.src then longer (own l i) x.view else own l i) := by
  apply List.ext_getElem?
  intro m
  rw [List.getElem?_set]
  by_cases hm : m < 8
  · rw [cls_get hm]
    by_cases him : i = m
    · subst him
      rw [if_pos rfl, if_pos (by rw [cls_len]; omega), word_step hg hf, own_step hg hf, if_pos hi]
      by_cases hb : x.by_ = x.src
      · rw [if_pos ⟨hi, by omega⟩, if_pos hb]
      · rw [if_neg (by omega), if_neg hb]
    · rw [if_neg him, cls_get hm, word_step hg hf, own_step hg hf, if_neg (by omega), if_neg (by omega)]
  · rw [List.getElem?_eq_none (by rw [cls_len]; omega)]
    split
    · rw [if_neg (by rw [cls_len]; omega)]
    · rw [List.getElem?_eq_none (by rw [cls_len]; omega)]

theorem learn_nil {s b : Int} {v : List UInt8} {t : Dig} {σ : AST} {K : AV → AST → Prop} (hK : K (.int .i64 1) σ) : TCalls Try.prog 16 [.ptr none, .int .i64 s, .int .i64 b, .str v, .dig t] σ K := by
  refine TCalls.drop ?_
  refine tcalls_walk Try.f16 _ [.tmp 10] Try.func16 rfl rfl rfl mixed (Nat.le_of_ble_eq_true rfl) rfl fun hlen => ?_
  simp -dsimp only [↓reduceIte, go_sem]
  exact ⟨Ext.app _ _, rfl, hK⟩

theorem learn_c {j n me : Nat} {l : List Line} {x : Line} {σ : AST} {K : AV → AST → Prop} (ho : σ.objs[j]? = some (.cells (kV n me l))) (hn : n ≤ 8) (hg : Good n l)
    (hK : ∀ σ', Ext (σ.set j (.cells (kV n me (learned n l x)))) σ' → K (.int .i64 (learnE n l x)) σ') : TCalls Try.prog 16 [.ptr (some (j, [])), .int .i64 x.src, .int .i64 x.by_, .str x.view, .dig x.tag] σ K := by
  refine tcalls_walk Try.f16 _ [.tmp 10] Try.func16 rfl rfl rfl mixed (Nat.le_of_ble_eq_true rfl) rfl fun hlen => ?_
  have hv : x.view.length ≤ 9223372036854775807 := hlen (.str x.view) (by simp)
  have hj : j < σ.objs.length := (List.getElem?_eq_some_iff.1 ho).1
  have ho' := objs_known_app ho
  have hc := cellAt_known_app ho
  rw [kV_eq] at ho' hc
  have bad : okB n x = false → K (.int .i64 2) (σ.app [.cells (.dig x.tag)]) := fun h => by
    have e : learnE n l x = 2 := by unfold learnE; rw [if_pos h]
    have := hK (σ.app [.cells (.dig x.tag)]) (by rw [learned, if_neg (by rw [e]; decide), set_same ho]; exact Ext.app _ _)
    rwa [e] at this
  rw [okB_eq] at bad
  simp -dsimp only [↓reduceIte, go_sem]
  refine is_c (ho' _) ?_
  simp -dsimp only [↓reduceIte, go_sem]
  refine guardV_split (fun a1 => ?_) (fun a1 => ?_) <;> (try rw [a1])
  · have a1 : 0 ≤ x.src ∧ x.src < n := by simpa using a1
    rw [decide_eq_true a1] at bad
    simp only [Bool.true_and] at bad
    simp -dsimp only [↓reduceIte, go_sem]
    refine is_c (ho' _) ?_
    simp -dsimp only [↓reduceIte, go_sem]
    refine guardV_split (fun a2 => ?_) (fun a2 => ?_) <;> (try rw [a2])
    · have a2 : 0 ≤ x.by_ ∧ x.by_ < n := by simpa using a2
      rw [decide_eq_true a2] at bad
      simp only [Bool.true_and] at bad
      simp -dsimp only [↓reduceIte, go_sem]
      refine guardV_split (fun a3 => ?_) (fun a3 => ?_) <;> (try rw [a3])
      · have a3 : x.view ≠ [] := by simpa using a3
        rw [show (x.view != []) = true by simpa using a3] at bad
        simp only [Bool.true_and] at bad
        simp -dsimp only [↓reduceIte, go_sem, hc, kW]
        refine right_c (by omega) (by omega) ?_
        simp -dsimp only [↓reduceIte, go_sem, hc, kW]
        refine guardV_split (fun a4 => ?_) (fun a4 => ?_) <;> (try rw [a4])
        · have a4 : right x.view n = true := by simpa using a4
          rw [a4] at bad
          simp only [Bool.true_and] at bad
          have hpos : 0 < x.view.length := List.length_pos_iff.2 a3
          obtain ⟨c, hcl⟩ := get_lt (l := x.view) (i := x.view.length - 1) (by omega)
          have hlast : x.view.getLast? = some c := by rw [List.getLast?_eq_getElem?]; exact hcl
          rw [hlast] at bad
          simp -dsimp only [↓reduceIte, go_sem, hc, kW]
          refine arr_intro fun _ => ?_
          simp -dsimp only [↓reduceIte, go_sem, hc, kW]
          rw [wrap_i64 (by omega) (by omega), show (x.view.length : Int) - 1 = ((x.view.length - 1 : Nat) : Int) by omega]
          refine nth_get hcl ?_
          simp -dsimp only [↓reduceIte, go_sem, hc, kW]
          have hcb := c.toNat_lt
          rw [wrap_i64 (by omega) (by omega)]
          refine boolW_split (fun a5 => ?_) (fun a5 => ?_)
          · have a5 : (c.toNat : Int) ≠ x.by_ := by simpa using a5
            simp -dsimp only [↓reduceIte, go_sem, hc, kW]
            exact bad (by simpa using a5)
          · have a5 : (c.toNat : Int) = x.by_ := by simpa using a5
            have good : okB n x = true := by
              rw [okB_eq, decide_eq_true a1, decide_eq_true a2, a4, hlast]
              simp [a3, a5]
            simp -dsimp only [↓reduceIte, go_sem, hc, kW]
            refine fit_c ?_
            by_cases a6 : fit (longest l).view x.view = true
            · rw [a6]
              have e0 : learnE n l x = 0 := learnE_cases.2 ⟨good, a6⟩
              rw [e0, learned, if_pos e0] at hK
              simp -dsimp only [↓reduceIte, go_sem, hc, kW]
              obtain ⟨i, hi⟩ : ∃ i : Nat, x.src = i := ⟨x.src.toNat, by omega⟩
              have hi8 : i < 8 := by omega
              have hg1 : (cls l)[i]? = some (word l i, own l i) := cls_get hi8
              have hat : ∀ C (p : List UInt8 × List UInt8) lo b t q, C[i]? = some p → (kW n me C lo b t).at (2 :: i :: q) = (clV p).at q := fun C p lo b t q h => by
                simp [kW, AV.at, h]
              have hcs := cls_step (x := x) hg a6 hi hi8
              have ho2 : ∀ V d, ((σ.set j (.cells V)).app d).objs[j]? = some (.cells V) := fun V d => objs_known_app (by simp [AST.set, hj]) d
              have hc2 : ∀ V d p, cellAt ((σ.set j (.cells V)).app d) j p = V.at p := fun V d p => cellAt_known (ho2 V d) p
              have hs0 : ∀ d o, (σ.app d).set j o = (σ.set j o).app d := fun d o => by simp only [AST.set, AST.app, List.set_append_left _ _ hj]
              have hs2 : ∀ V d o, ((σ.set j V).app d).set j o = (σ.set j o).app d := fun V d o => by simp only [AST.set, AST.app]; rw [List.set_append_left _ _ (by simpa using hj), List.set_set]
              have hb2 : ∀ V D p, cellAt ((σ.set j V).app [.cells D]) σ.objs.length p = D.at p := fun V D p => by
                have e : (σ.set j V).objs.length = σ.objs.length := by simp [AST.set]
                rw [← e]; exact cellAt_app0
              have hkp : ∀ V V' D, keeps [σ.objs.length] ((σ.set j V).app [D]) ((σ.set j V').app [D]) := fun V V' D k hk => by
                obtain rfl := List.mem_singleton.1 hk
                have e : ∀ V, (σ.set j V).objs.length = σ.objs.length := fun V => by simp [AST.set]
                rw [← e V, objs_app0, e V, ← e V', objs_app0]
              rw [hi]
              refine indexAddr_arr (xs := (cls l).map clV) Try.underlying58 (by kernel_rfl) (by rw [List.length_map, cls_len]) size_cl (by rw [hc]; simp [kW, AV.at]) (by rw [List.getElem?_map, hg1]; rfl) (by rw [fits57]; exact ⟨rfl, by simp [clV, AV.size, AV.sizes]⟩) ?_
              simp -dsimp only [↓reduceIte, go_sem, hc, hat _ _ _ _ _ _ hg1, clV]
              refine longer_c ?_
              simp -dsimp only [↓reduceIte, go_sem, hc, hat _ _ _ _ _ _ hg1, clV]
              rw [ho']
              refine store_w hg1 ?_
              simp -dsimp only [↓reduceIte, go_sem, hs0]
              have hg2 : ((cls l).set i (longer (word l i) x.view, own l i))[i]? = some (longer (word l i) x.view, own l i) := by rw [List.getElem?_set, if_pos rfl, if_pos (by rw [cls_len]; omega)]
              refine boolW_split (fun a7 => ?_) (fun a7 => ?_)
              · have a7 : x.by_ = i := by simpa using a7
                rw [if_pos (by omega)] at hcs
                simp -dsimp only [↓reduceIte, go_sem, hc2, hat _ _ _ _ _ _ hg2, clV]
                refine longer_c ?_
                simp -dsimp only [↓reduceIte, go_sem, hc2, hat _ _ _ _ _ _ hg2, clV]
                rw [ho2]
                refine store_o hg2 ?_
                simp -dsimp only [↓reduceIte, go_sem, hs2]
                rw [List.set_set, ← hcs]
                refine arr_intro fun _ => ?_
                simp -dsimp only [↓reduceIte, go_sem, hc2]
                have hat3 : ∀ C lo b t, (kW n me C lo b t).at [3] = some (.str lo) := fun C lo b t => rfl
                simp -dsimp only [↓reduceIte, go_sem, hc2, kW]
                refine arr_intro fun _ => ?_
                simp -dsimp only [↓reduceIte, go_sem, hc2, kW]
                refine boolW_split (fun a8 => ?_) (fun a8 => ?_)
                · have a8 : (longest l).view.length < x.view.length := by simp at a8; omega
                  have hlong : longest (l ++ [x]) = x := by rw [longest_snoc, pickL, if_pos a8]
                  refine awp_drawF [(0, 0), (1, 0), (2, 0), (3, 0), (4, 0), (5, 0), (6, 2), (7, 2), (8, 1), (9, 2), (10, 2), (11, 1), (12, 2), (13, 2), (14, 1)] (by kernel_rfl) ?_
                  simp -dsimp only [↓reduceIte, go_sem, hc2, hb2, ho2]
                  refine later_intro ⟨by (try rw [hs2]); exact hkp _ _ _, ?_⟩
                  simp -dsimp only [↓reduceIte, go_sem, hc2, hb2, ho2, hs2]
                  refine later_intro ⟨by (try rw [hs2]); exact hkp _ _ _, ?_⟩
                  simp -dsimp only [↓reduceIte, go_sem, hc2, hb2, ho2, hs2]
                  refine later_intro ⟨by (try rw [hs2]); exact hkp _ _ _, ?_⟩
                  simp -dsimp only [↓reduceIte, go_sem, hc2, hb2, ho2, hs2]
                  refine hK _ ?_
                  rw [kV_eq, hlong]
                  exact Ext.app _ _
                · have a8 : ¬ (longest l).view.length < x.view.length := by simp at a8; omega
                  have hlong : longest (l ++ [x]) = longest l := by rw [longest_snoc, pickL, if_neg a8]
                  simp -dsimp only [↓reduceIte, go_sem, hc2]
                  refine hK _ ?_
                  rw [kV_eq, hlong]
                  exact Ext.app _ _
              · have a7 : x.by_ ≠ i := by simpa using a7
                rw [if_neg (by omega)] at hcs
                simp -dsimp only [↓reduceIte, go_sem, hc2]
                rw [← hcs]
                refine arr_intro fun _ => ?_
                simp -dsimp only [↓reduceIte, go_sem, hc2]
                have hat3 : ∀ C lo b t, (kW n me C lo b t).at [3] = some (.str lo) := fun C lo b t => rfl
                simp -dsimp only [↓reduceIte, go_sem, hc2, kW]
                refine arr_intro fun _ => ?_
                simp -dsimp only [↓reduceIte, go_sem, hc2, kW]
                refine boolW_split (fun a8 => ?_) (fun a8 => ?_)
                · have a8 : (longest l).view.length < x.view.length := by simp at a8; omega
                  have hlong : longest (l ++ [x]) = x := by rw [longest_snoc, pickL, if_pos a8]
                  refine awp_drawF [(0, 0), (1, 0), (2, 0), (3, 0), (4, 0), (5, 0), (6, 2), (7, 2), (8, 1), (9, 2), (10, 2), (11, 1), (12, 2), (13, 2), (14, 1)] (by kernel_rfl) ?_
                  simp -dsimp only [↓reduceIte, go_sem, hc2, hb2, ho2]
                  refine later_intro ⟨by (try rw [hs2]); exact hkp _ _ _, ?_⟩
                  simp -dsimp only [↓reduceIte, go_sem, hc2, hb2, ho2, hs2]
                  refine later_intro ⟨by (try rw [hs2]); exact hkp _ _ _, ?_⟩
                  simp -dsimp only [↓reduceIte, go_sem, hc2, hb2, ho2, hs2]
                  refine later_intro ⟨by (try rw [hs2]); exact hkp _ _ _, ?_⟩
                  simp -dsimp only [↓reduceIte, go_sem, hc2, hb2, ho2, hs2]
                  refine hK _ ?_
                  rw [kV_eq, hlong]
                  exact Ext.app _ _
                · have a8 : ¬ (longest l).view.length < x.view.length := by simp at a8; omega
                  have hlong : longest (l ++ [x]) = longest l := by rw [longest_snoc, pickL, if_neg a8]
                  simp -dsimp only [↓reduceIte, go_sem, hc2]
                  refine hK _ ?_
                  rw [kV_eq, hlong]
                  exact Ext.app _ _
            · have a6 : fit (longest l).view x.view = false := by simpa using a6
              rw [a6]
              simp -dsimp only [↓reduceIte, go_sem, hc, kW]
              have e : learnE n l x = 8 := by unfold learnE; rw [if_neg (by rw [good]; decide), if_pos a6]
              have := hK (σ.app [.cells (.dig x.tag)]) (by rw [learned, if_neg (by rw [e]; decide), set_same ho]; exact Ext.app _ _)
              rwa [e] at this
        · have a4 : right x.view n = false := by simpa using a4
          simp -dsimp only [↓reduceIte, go_sem, hc, kW]
          exact bad (by rw [a4]; rfl)
      · have a3 : x.view = [] := by simpa using a3
        simp -dsimp only [↓reduceIte, go_sem]
        exact bad (by rw [a3]; rfl)
    · have a2 : ¬ (0 ≤ x.by_ ∧ x.by_ < n) := by simp at a2; omega
      simp -dsimp only [↓reduceIte, go_sem]
      exact bad (by rw [decide_eq_false a2]; rfl)
  · have a1 : ¬ (0 ≤ x.src ∧ x.src < n) := by simp at a1; omega
    simp -dsimp only [↓reduceIte, go_sem]
    exact bad (by rw [decide_eq_false a1]; rfl)
end Go.Aff.L16

/- Layer 16, walked: the reference. -/
namespace Go.Aff.L16
open Go.Proofs Go.Aff Go.Aff.L09 Classical
set_option linter.unusedVariables false
set_option linter.unusedSimpArgs false
attribute [local go_sem] push_app app_app length_app cellAt_app cellAt_app0 set_app set_app0 objs_app objs_app0 List.cons_append List.nil_append List.length_cons List.length_nil List.getElem?_cons_zero List.getElem?_cons_succ List.set_cons_zero List.set_cons_succ
attribute [local go_sem] Try.underlying3 fits4 Try.underlying4 fits5 Try.underlying5 Try.underlying9 fits22 Try.underlying22 fits23 Try.underlying23 fits24 Try.underlying24 fits30 Try.underlying30 fits33 Try.underlying33 fits38 p38_0 p38_1 p38_2 p38_3 Try.underlying38 fits42 Try.underlying42 fits54 p54_0 p54_1 p54_2 Try.underlying54 fits57 p57_0 p57_1 Try.underlying57 fits58 Try.underlying58 fits60 p60_0 p60_1 p60_2 p60_3 p60_4 p60_5 Try.underlying60 fits66 Try.underlying66 fits69 Try.underlying69 fits47 p47_0 p47_1 p47_2 p47_3 Try.underlying47
attribute [local go_sem] fits3 fits9 sizes_cls
attribute [-go_sem] cellAt_new

theorem line_size {x : Line} : (lineV x).isAgg = true ∧ (lineV x).size = 35 := ⟨rfl, by simp [lineV, AV.size, AV.sizes]⟩
theorem line_known {x : Line} : (lineV x).known = true := rfl
attribute [local go_sem] line_size line_known
theorem Word_c {j n me : Nat} {tk : Tk} {l : List Line} {c : Int} {σ : AST} {K : AV → AST → Prop} (ho : σ.objs[j]? = some (.cells (xV n me tk l))) (hK : K (.str (word l c)) σ) : TCalls Try.prog 22 [.ptr (some (j, [])), .int .i64 c] σ K := by
  refine tcalls_walk Try.f22 _ [.tmp 4] Try.func22 rfl rfl rfl mixed (Nat.le_of_ble_eq_true rfl) rfl fun hlen => ?_
  have hc := cellAt_known ho
  unfold xV at hc
  simp -dsimp only [↓reduceIte, go_sem]
  refine awp_rounds (fun (i : Nat) τ s => s = σ ∧ i ≤ l.length ∧ τ 0 = .ptr (some (j, [])) ∧ τ 1 = .int .i64 c ∧ τ 5 = .str (word (l.take i) c) ∧ τ 6 = .int .i64 i) (fun i => l.length - i) 0 ?_ ?_
  · refine ⟨rfl, by omega, ?_, ?_, ?_, ?_⟩ <;> (try simp only [go_sem]) <;> rfl
  · rintro i τ s ⟨rfl, hi, t0, t1, t5, t6⟩
    simp -dsimp only [↓reduceIte, go_sem, hc, t0, t1, t5, t6]
    refine arr_intro fun _ => ?_
    simp only [List.length_map]
    simp -dsimp only [↓reduceIte, go_sem, hc, t0, t1, t5, t6]
    have hll : l.length ≤ 9223372036854775807 := by
      have := ‹(l.map lineV).length ≤ maxL›
      simpa [maxL] using this
    refine boolW_split (fun hb => ?_) (fun hb => ?_)
    · have hb : i < l.length := by simp at hb; omega
      obtain ⟨x, hx⟩ := get_lt hb
      have htake : l.take (i + 1) = l.take i ++ [x] := by rw [List.take_add_one, hx]; rfl
      have hw : word (l.take (i + 1)) c = pickW c (word (l.take i) c) x := by rw [htake, word_snoc]
      unfold pickW at hw
      simp -dsimp only [↓reduceIte, go_sem, hc, t0, t1, t5, t6]
      refine nth_get hx ?_
      simp -dsimp only [↓reduceIte, go_sem, hc, t0, t1, t5, t6, lineV]
      refine guardV_split (fun g1 => ?_) (fun g1 => ?_) <;> (try rw [g1])
      · have g1 : x.src = c := by simpa using g1
        simp -dsimp only [↓reduceIte, go_sem, hc, t0, t1, t5, t6, lineV]
        refine nth_get hx ?_
        simp -dsimp only [↓reduceIte, go_sem, hc, t0, t1, t5, t6, lineV]
        refine arr_intro fun _ => ?_
        simp -dsimp only [↓reduceIte, go_sem, hc, t0, t1, t5, t6, lineV]
        refine arr_intro fun _ => ?_
        simp -dsimp only [↓reduceIte, go_sem, hc, t0, t1, t5, t6, lineV]
        refine boolW_split (fun g2 => ?_) (fun g2 => ?_)
        · have g2 : (word (l.take i) c).length < x.view.length := by simp at g2; omega
          simp -dsimp only [↓reduceIte, go_sem, hc, t0, t1, t5, t6, lineV]
          refine nth_get hx ?_
          simp -dsimp only [↓reduceIte, go_sem, hc, t0, t1, t5, t6, lineV]
          rw [wrap_i64 (by omega) (by omega)]
          first
          | (refine later_intro ⟨i + 1, by omega, rfl, by omega, ?_, ?_, ?_, ?_⟩ <;> (try simp only [go_sem, t0, t1, t5, t6]) <;> (try rfl)
             rw [hw, if_pos ⟨g1, g2⟩])
          | (refine ⟨i + 1, by omega, by omega, ?_, rfl⟩
             rw [hw, if_pos ⟨g1, g2⟩])
        · have g2 : ¬ (word (l.take i) c).length < x.view.length := by simp at g2; omega
          simp -dsimp only [↓reduceIte, go_sem, hc, t0, t1, t5, t6, lineV]
          rw [wrap_i64 (by omega) (by omega)]
          first
          | (refine later_intro ⟨i + 1, by omega, rfl, by omega, ?_, ?_, ?_, ?_⟩ <;> (try simp only [go_sem, t0, t1, t5, t6]) <;> (try rfl)
             rw [hw, if_neg (fun h => g2 h.2)])
          | (refine ⟨i + 1, by omega, by omega, ?_, rfl⟩
             rw [hw, if_neg (fun h => g2 h.2)])
      · have g1 : ¬ x.src = c := by simpa using g1
        simp -dsimp only [↓reduceIte, go_sem, hc, t0, t1, t5, t6, lineV]
        rw [wrap_i64 (by omega) (by omega)]
        first
        | (refine later_intro ⟨i + 1, by omega, rfl, by omega, ?_, ?_, ?_, ?_⟩ <;> (try simp only [go_sem, t0, t1, t5, t6]) <;> (try rfl)
           rw [hw, if_neg (fun h => g1 h.1)])
        | (refine ⟨i + 1, by omega, by omega, ?_, rfl⟩
           rw [hw, if_neg (fun h => g1 h.1)])
    · have hb : i = l.length := by simp at hb; omega
      simp -dsimp only [↓reduceIte, go_sem, hc, t0, t1, t5, t6]
      rw [hb, List.take_length]
      exact hK
theorem Own_c {j n me : Nat} {tk : Tk} {l : List Line} {c : Int} {σ : AST} {K : AV → AST → Prop} (ho : σ.objs[j]? = some (.cells (xV n me tk l))) (hK : K (.str (own l c)) σ) : TCalls Try.prog 24 [.ptr (some (j, [])), .int .i64 c] σ K := by
  refine tcalls_walk Try.f24 _ [.tmp 4] Try.func24 rfl rfl rfl mixed (Nat.le_of_ble_eq_true rfl) rfl fun hlen => ?_
  have hc := cellAt_known ho
  unfold xV at hc
  simp -dsimp only [↓reduceIte, go_sem]
  refine awp_rounds (fun (i : Nat) τ s => s = σ ∧ i ≤ l.length ∧ τ 0 = .ptr (some (j, [])) ∧ τ 1 = .int .i64 c ∧ τ 5 = .str (own (l.take i) c) ∧ τ 6 = .int .i64 i) (fun i => l.length - i) 0 ?_ ?_
  · refine ⟨rfl, by omega, ?_, ?_, ?_, ?_⟩ <;> (try simp only [go_sem]) <;> rfl
  · rintro i τ s ⟨rfl, hi, t0, t1, t5, t6⟩
    simp -dsimp only [↓reduceIte, go_sem, hc, t0, t1, t5, t6]
    refine arr_intro fun _ => ?_
    simp only [List.length_map]
    simp -dsimp only [↓reduceIte, go_sem, hc, t0, t1, t5, t6]
    have hll : l.length ≤ 9223372036854775807 := by
      have := ‹(l.map lineV).length ≤ maxL›
      simpa [maxL] using this
    refine boolW_split (fun hb => ?_) (fun hb => ?_)
    · have hb : i < l.length := by simp at hb; omega
      obtain ⟨x, hx⟩ := get_lt hb
      have htake : l.take (i + 1) = l.take i ++ [x] := by rw [List.take_add_one, hx]; rfl
      have hw : own (l.take (i + 1)) c = pickO c (own (l.take i) c) x := by rw [htake, own_snoc]
      unfold pickO at hw
      simp -dsimp only [↓reduceIte, go_sem, hc, t0, t1, t5, t6]
      refine nth_get hx ?_
      simp -dsimp only [↓reduceIte, go_sem, hc, t0, t1, t5, t6, lineV]
      refine guardV_split (fun g1 => ?_) (fun g1 => ?_) <;> (try rw [g1])
      · have g1 : x.src = c := by simpa using g1
        simp -dsimp only [↓reduceIte, go_sem, hc, t0, t1, t5, t6, lineV]
        refine nth_get hx ?_
        simp -dsimp only [↓reduceIte, go_sem, hc, t0, t1, t5, t6, lineV]
        refine guardV_split (fun g3 => ?_) (fun g3 => ?_) <;> (try rw [g3])
        · have g3 : x.by_ = c := by simpa using g3
          simp -dsimp only [↓reduceIte, go_sem, hc, t0, t1, t5, t6, lineV]
          refine nth_get hx ?_
          simp -dsimp only [↓reduceIte, go_sem, hc, t0, t1, t5, t6, lineV]
          refine arr_intro fun _ => ?_
          simp -dsimp only [↓reduceIte, go_sem, hc, t0, t1, t5, t6, lineV]
          refine arr_intro fun _ => ?_
          simp -dsimp only [↓reduceIte, go_sem, hc, t0, t1, t5, t6, lineV]
          refine boolW_split (fun g2 => ?_) (fun g2 => ?_)
          · have g2 : (own (l.take i) c).length < x.view.length := by simp at g2; omega
            simp -dsimp only [↓reduceIte, go_sem, hc, t0, t1, t5, t6, lineV]
            refine nth_get hx ?_
            simp -dsimp only [↓reduceIte, go_sem, hc, t0, t1, t5, t6, lineV]
            rw [wrap_i64 (by omega) (by omega)]
            first
            | (refine later_intro ⟨i + 1, by omega, rfl, by omega, ?_, ?_, ?_, ?_⟩ <;> (try simp only [go_sem, t0, t1, t5, t6]) <;> (try rfl)
               rw [hw, if_pos ⟨g1, g3, g2⟩])
            | (refine ⟨i + 1, by omega, by omega, ?_, rfl⟩
               rw [hw, if_pos ⟨g1, g3, g2⟩])
          · have g2 : ¬ (own (l.take i) c).length < x.view.length := by simp at g2; omega
            simp -dsimp only [↓reduceIte, go_sem, hc, t0, t1, t5, t6, lineV]
            rw [wrap_i64 (by omega) (by omega)]
            first
            | (refine later_intro ⟨i + 1, by omega, rfl, by omega, ?_, ?_, ?_, ?_⟩ <;> (try simp only [go_sem, t0, t1, t5, t6]) <;> (try rfl)
               rw [hw, if_neg (fun h => g2 h.2.2)])
            | (refine ⟨i + 1, by omega, by omega, ?_, rfl⟩
               rw [hw, if_neg (fun h => g2 h.2.2)])
        · have g3 : ¬ x.by_ = c := by simpa using g3
          simp -dsimp only [↓reduceIte, go_sem, hc, t0, t1, t5, t6, lineV]
          rw [wrap_i64 (by omega) (by omega)]
          first
          | (refine later_intro ⟨i + 1, by omega, rfl, by omega, ?_, ?_, ?_, ?_⟩ <;> (try simp only [go_sem, t0, t1, t5, t6]) <;> (try rfl)
             rw [hw, if_neg (fun h => g3 h.2.1)])
          | (refine ⟨i + 1, by omega, by omega, ?_, rfl⟩
             rw [hw, if_neg (fun h => g3 h.2.1)])
      · have g1 : ¬ x.src = c := by simpa using g1
        simp -dsimp only [↓reduceIte, go_sem, hc, t0, t1, t5, t6, lineV]
        rw [wrap_i64 (by omega) (by omega)]
        first
        | (refine later_intro ⟨i + 1, by omega, rfl, by omega, ?_, ?_, ?_, ?_⟩ <;> (try simp only [go_sem, t0, t1, t5, t6]) <;> (try rfl)
           rw [hw, if_neg (fun h => g1 h.1)])
        | (refine ⟨i + 1, by omega, by omega, ?_, rfl⟩
           rw [hw, if_neg (fun h => g1 h.1)])
    · have hb : i = l.length := by simp at hb; omega
      simp -dsimp only [↓reduceIte, go_sem, hc, t0, t1, t5, t6]
      rw [hb, List.take_length]
      exact hK

end Go.Aff.L16

