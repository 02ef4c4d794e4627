import Derived.Test.YtjofgcfmfecanaaGreatG14
import Derived.Test.YtjofgcfmfecanaaGreatG13

set_option linter.unusedSimpArgs false
set_option linter.unusedVariables false

/- Layer 32, walked: each. -/
-- cuts
namespace Go.Aff.L10
open Go.Proofs Go.Aff Go.Aff.L01 Classical
set_option linter.unusedVariables false
set_option linter.unusedSimpArgs false
set_option maxRecDepth 20000
attribute [local go_sem] push_app app_app length_app cellAt_app cellAt_app0 set_app set_app0 objs_app objs_app0 List.cons_append List.nil_append List.length_cons List.length_nil List.getElem?_cons_zero List.getElem?_cons_succ List.set_cons_zero List.set_cons_succ List.length_map
attribute [-go_sem] cellAt_new
attribute [-simp] List.length_flatMap
attribute [local go_sem] Tryz.underlying3 Tryz.underlying4 Tryz.underlying5 Tryz.underlying9 Tryz.underlying39 Tryz.underlying40 Tryz.underlying43 Tryz.underlying25 Tryz.underlying50 Tryz.underlying76 subPs_0 subAt_0 subSet_0 subPs_1 subAt_1 subSet_1 subPs_2 subAt_2 subSet_2 subPs_3 subAt_3 subSet_3 subPs_4 subAt_4 subSet_4 subPs_5 subAt_5 subSet_5 sizes_sub shapes_sub fits_sub zero_sub zt_sub built_sub Tryz.underlying42 pendPs_0 pendAt_0 pendSet_0 pendPs_1 pendAt_1 pendSet_1 pendPs_2 pendAt_2 pendSet_2 pendPs_3 pendAt_3 pendSet_3 pendPs_4 pendAt_4 pendSet_4 pendPs_5 pendAt_5 pendSet_5 sizes_pend shapes_pend fits_pend zero_pend zt_pend built_pend Tryz.underlying104 repPs_0 repAt_0 repSet_0 repPs_1 repAt_1 repSet_1 repPs_2 repAt_2 repSet_2 repPs_3 repAt_3 repSet_3 repPs_4 repAt_4 repSet_4 repPs_5 repAt_5 repSet_5 repPs_6 repAt_6 repSet_6 repPs_7 repAt_7 repSet_7 repPs_8 repAt_8 repSet_8 repPs_9 repAt_9 repSet_9 sizes_rep shapes_rep fits_rep zero_rep zt_rep built_rep Tryz.underlying45 blobPs_0 blobAt_0 blobSet_0 blobPs_1 blobAt_1 blobSet_1 blobPs_2 blobAt_2 blobSet_2 blobPs_3 blobAt_3 blobSet_3 sizes_blob shapes_blob fits_blob zero_blob zt_blob built_blob Tryz.underlying47 msgPs_0 msgAt_0 msgSet_0 msgPs_1 msgAt_1 msgSet_1 msgPs_2 msgAt_2 msgSet_2 msgPs_3 msgAt_3 msgSet_3 msgPs_4 msgAt_4 msgSet_4 msgPs_5 msgAt_5 msgSet_5 msgPs_6 msgAt_6 msgSet_6 msgPs_7 msgAt_7 msgSet_7 msgPs_8 msgAt_8 msgSet_8 msgPs_9 msgAt_9 msgSet_9 sizes_msg shapes_msg fits_msg zero_msg zt_msg built_msg Tryz.underlying49 at_Ps_0 at_Set_0 at_Ps_1 at_Set_1 sizes_at_ shapes_at_
attribute [local go_sem] fits3 fits4 fits5 fits9 fits23 fits26 fits31 fits34 fits52 zt3 zero3 zt34 zero34 zt23 zero23 bin_sub_eql bin_pend_eql bin_pend_neq bin_blob_eql bin_dig23_eql bin_dig23_neq slice23
attribute [local go_sem ↓] blockQ_exit2
attribute [local simp] dig_ext
attribute [local go_sem] postPs_0 postAt_0 postSet_0 postPs_1 postAt_1 postSet_1 postPs_2 postAt_2 postSet_2 sizes_post shapes_post fits_post zero_post zt_post built_post Tryz.underlying38 keyPs_0 keyAt_0 keySet_0 keyPs_1 keyAt_1 keySet_1 keyPs_2 keyAt_2 keySet_2 sizes_key shapes_key fits_key zero_key zt_key built_key Tryz.underlying87 conPs_0 conAt_0 conSet_0 conPs_1 conAt_1 conSet_1 sizes_con shapes_con fits_con zero_con zt_con built_con Tryz.underlying89 Tryz.underlying22 Tryz.underlying28 Tryz.underlying29 Tryz.underlying31 Tryz.underlying24 Tryz.underlying25 Tryz.underlying125 Tryz.underlying127 Tryz.underlying128 Tryz.underlying130
/-- each: what the function that is called keeps true. -/
theorem each_c {ps : List Post} {f : Nat} {caps : List AV} {ta : Tk} {σ : AST} {K : AV → AST → Prop} (J : Nat → AST → Prop) (h0 : J 0 σ) (hx : ∀ i s s', J i s → Ext s s' → J i s')
    (hstep : ∀ (i : Nat) p s t u (K' : AV → AST → Prop), ps[i]? = some p → J i s → (∀ s', J (i + 1) s' → K' (.tuple []) s') → TCalls Tryz.prog f (.int .i64 i :: msgV t u (getR p.b).1 :: .bool ((getR p.b).2 == 0) :: caps) s K')
    (hK : ∀ s, J ps.length s → K (.tuple []) s) : TCalls Tryz.prog 17 [.slice ta (ps.map postV), .fn (.func f) [] caps] σ K := by
  refine tcalls_walk Tryz.f17 _ [] Tryz.func17 rfl rfl rfl mixed (Nat.le_of_ble_eq_true rfl) rfl fun hlen => ?_
  have hl : ps.length ≤ 9223372036854775807 := by
    have h1 : (ps.map postV).length ≤ maxL := hlen (.slice ta (ps.map postV)) (by simp)
    rw [List.length_map] at h1; exact h1
  repeat' (first | (simp -dsimp only [↓reduceIte, go_sem]) | (refine arr_intro fun _ => ?_) | (rw [wrap_i64 (by omega) (by omega)]) | (refine guardV_split (fun h => ?_) (fun h => ?_) <;> (try rw [h]) <;> (try simp at h) <;> (try (exfalso; omega))))
  refine awp_rounds (fun (i : Nat) τ s => i ≤ ps.length ∧ J i s ∧ τ 0 = .slice ta (ps.map postV) ∧ τ 1 = .fn (.func f) [] caps ∧ τ 8 = .slice ta (ps.map postV) ∧ τ 9 = .int .i64 ps.length ∧ τ 10 = .int .i64 i) (fun i => ps.length - i) 0 ?_ ?_
  · refine ⟨by omega, h0, ?_, ?_, ?_, ?_, ?_⟩ <;> (try simp only [go_sem]) <;> (try rfl)
  · rintro i τ s ⟨hi, hJ, t0, t1, t8, t9, t10⟩
    by_cases hn : i < ps.length
    · have hn1 : (i : Int) < ps.length := by omega
      obtain ⟨p, hp, _⟩ := get_of_lt hn
      repeat' (first | (simp -dsimp only [↓reduceIte, go_sem, t0, t1, t8, t9, t10, hn1]) | (refine arr_intro fun _ => ?_) | (rw [wrap_i64 (by omega) (by omega)]) | (refine guardV_split (fun h => ?_) (fun h => ?_) <;> (try rw [h]) <;> (try simp at h) <;> (try (exfalso; omega))) | (refine nth_get hp ?_) | ((refine get_c fun t u => ?_)))
      refine hstep i p _ t u _ hp (hx _ _ _ hJ (Ext.app _ _)) fun s' hJ' => ?_
      repeat' (first | (simp -dsimp only [↓reduceIte, go_sem, t0, t1, t8, t9, t10]) | (refine arr_intro fun _ => ?_) | (rw [wrap_i64 (by omega) (by omega)]) | (refine guardV_split (fun h => ?_) (fun h => ?_) <;> (try rw [h]) <;> (try simp at h) <;> (try (exfalso; omega))))
      refine later_intro ⟨i + 1, by omega, by omega, hJ', ?_, ?_, ?_, ?_, ?_⟩ <;> (try simp only [go_sem, t0, t1, t8, t9, t10]) <;> (try rfl)
    · have hn1 : ¬ (i : Int) < ps.length := by omega
      repeat' (first | (simp -dsimp only [↓reduceIte, go_sem, t0, t1, t8, t9, t10, hn1]) | (refine arr_intro fun _ => ?_) | (rw [wrap_i64 (by omega) (by omega)]) | (refine guardV_split (fun h => ?_) (fun h => ?_) <;> (try rw [h]) <;> (try simp at h) <;> (try (exfalso; omega))))
      obtain rfl : i = ps.length := by omega
      exact hK _ hJ
theorem E22 : ElemT Tryz.prog 22 38 3 32 := ⟨rfl, by kernel_rfl, by kernel_rfl, ⟨_, of_eq_true zt_post⟩, by decide⟩
theorem size_posts {l : List Post} : ∀ v ∈ l.map postV, v.size = 3 := by
  intro v hv; obtain ⟨x, _, rfl⟩ := List.mem_map.1 hv; simp only [AV.size, sizes_post]
theorem append_posts {a b : List Post} {tk tk2 : Tk} {σ : AST} {K : AV → AST → Prop} (hca : canApp σ tk a.length 3) (hl : a.length + b.length ≤ 2000) (hK : K (.slice (growT σ tk) ((a ++ b).map postV)) (growS σ tk (a.length + b.length) 3)) :
    appendW Tryz.prog ⟨[22, 22]⟩ (.slice tk (a.map postV)) (.slice tk2 (b.map postV)) σ K := by
  refine append_slice E22 rfl (by rw [List.length_map]; exact hca) size_posts size_posts (by simp; omega) (by simp [maxL]; omega) ?_
  simpa using hK
theorem append_pnone {b : List Post} {tk2 : Tk} {σ : AST} {K : AV → AST → Prop} (hl : b.length ≤ 2000) (hK : K (.slice (growT σ .full) (b.map postV)) (growS σ .full b.length 3)) :
    appendW Tryz.prog ⟨[22, 22]⟩ (.slice .full []) (.slice tk2 (b.map postV)) σ K := append_posts (a := []) trivial (by simpa using hl) (by simpa using hK)
theorem append_post {a : List Post} {x : Post} {tk tk2 : Tk} {σ : AST} {K : AV → AST → Prop} (hca : canApp σ tk a.length 3) (hl : a.length ≤ 1999) (hK : K (.slice (growT σ tk) ((a ++ [x]).map postV)) (growS σ tk (a.length + 1) 3)) :
    appendW Tryz.prog ⟨[22, 22]⟩ (.slice tk (a.map postV)) (.slice tk2 [postV x]) σ K := append_posts (b := [x]) hca (by simp; omega) (by simpa using hK)
def fewL (l : List Post) : List Post := (l.take 25).filter fun p => decide (p.b.length < 2500)
theorem fewL_next {l : List Post} {i : Nat} {p : Post} (h : l[i]? = some p) (hi : i < 25) : fewL (l.take (i + 1)) = if p.b.length < 2500 then fewL (l.take i) ++ [p] else fewL (l.take i) := by
  unfold fewL
  rw [List.take_take, List.take_take, Nat.min_eq_right (by omega), Nat.min_eq_right (by omega), List.take_add_one, h]
  simp only [Option.toList_some, List.filter_append]
  by_cases e : p.b.length < 2500 <;> simp [e]
theorem fewL_len {l : List Post} : (fewL l).length ≤ 25 := by
  unfold fewL; exact Nat.le_trans (List.length_filter_le _ _) (by simp; omega)
theorem few_c {ps : List Post} {ta : Tk} {σ : AST} {K : AV → AST → Prop} (hK : ∀ s tk, Ext σ s → tkNew σ tk → canApp s tk (fewL ps).length 3 → K (.slice tk ((fewL ps).map postV)) s) : TCalls Tryz.prog 4 [.slice ta (ps.map postV)] σ K := by
  refine tcalls_walk Tryz.f4 _ [.tmp 2] Tryz.func4 rfl rfl rfl mixed (Nat.le_of_ble_eq_true rfl) rfl fun hlen => ?_
  have hl : ps.length ≤ 9223372036854775807 := by
    have h1 : (ps.map postV).length ≤ maxL := hlen (.slice ta (ps.map postV)) (by simp)
    rw [List.length_map] at h1; exact h1
  repeat' (first | (simp -dsimp only [↓reduceIte, go_sem]) | (refine arr_intro fun _ => ?_) | (rw [wrap_i64 (by omega) (by omega)]) | (refine guardV_split (fun h => ?_) (fun h => ?_) <;> (try rw [h]) <;> (try simp at h) <;> (try (exfalso; omega))))
  refine awp_rounds (fun (i : Nat) τ s => ∃ tk, i ≤ ps.length ∧ i ≤ 25 ∧ Gr σ s tk (fewL (ps.take i)).length 3 ∧ τ 0 = .slice ta (ps.map postV) ∧ τ 3 = .slice tk ((fewL (ps.take i)).map postV) ∧ τ 4 = .int .i64 i) (fun i => ps.length - i) 0 ?_ ?_
  · refine ⟨.full, by omega, by omega, Gr.start, ?_, ?_, ?_⟩ <;> (try simp only [go_sem]) <;> (try rfl)
  · rintro i τ s ⟨tk, hi, hi25, hg, t0, t3, t4⟩
    by_cases hn : i < ps.length ∧ i < 25
    · have hn1 : (i : Int) < ps.length := by omega
      have hn2 : (i : Int) < 25 := by omega
      obtain ⟨p, hp, _⟩ := get_of_lt hn.1
      have hnx := fewL_next hp hn.2
      have hfl := fewL_len (l := ps.take i)
      by_cases hb : p.b.length < 2500
      · have hb1 : (p.b.length : Int) < 2500 := by omega
        rw [if_pos hb] at hnx
        repeat' (first | (simp -dsimp only [↓reduceIte, go_sem, t0, t3, t4, hn1, hn2, hb1]) | (refine arr_intro fun _ => ?_) | (rw [wrap_i64 (by omega) (by omega)]) | (refine guardV_split (fun h => ?_) (fun h => ?_) <;> (try rw [h]) <;> (try simp at h) <;> (try (exfalso; omega))) | (refine nth_get hp ?_) | (refine build_slice E22 rfl (by decide) (by intro v hv; simp at hv; subst hv; simp [go_sem]) ?_) | (refine append_post hg.c (by omega) ?_))

        refine later_intro ⟨i + 1, by omega, growT s tk, by omega, by omega, ?_, ?_, ?_, ?_⟩ <;> (try simp only [go_sem, t0, t3, t4, hnx]) <;> (try rfl)
        have := hg.grow (m := (fewL (ps.take i)).length + 1)
        simpa using this
      · have hb1 : ¬ (p.b.length : Int) < 2500 := by omega
        rw [if_neg hb] at hnx
        repeat' (first | (simp -dsimp only [↓reduceIte, go_sem, t0, t3, t4, hn1, hn2, hb1]) | (refine arr_intro fun _ => ?_) | (rw [wrap_i64 (by omega) (by omega)]) | (refine guardV_split (fun h => ?_) (fun h => ?_) <;> (try rw [h]) <;> (try simp at h) <;> (try (exfalso; omega))) | (refine nth_get hp ?_))
        refine later_intro ⟨i + 1, by omega, tk, by omega, by omega, by rw [hnx]; exact hg, ?_, ?_, ?_⟩ <;> (try simp only [go_sem, t0, t3, t4, hnx]) <;> (try rfl)
    · have he : fewL (ps.take i) = fewL ps := by
        unfold fewL
        by_cases h : i = ps.length
        · subst h; rw [List.take_length]
        · have : i = 25 := by omega
          subst this; rw [List.take_take]; rfl
      rw [he] at hg t3
      have h2 : (¬ (i : Int) < ps.length ∧ True) ∨ ((i : Int) < ps.length ∧ ¬ (i : Int) < 25) := by
        by_cases h : (i : Int) < ps.length
        · exact .inr ⟨h, by omega⟩
        · exact .inl ⟨h, trivial⟩
      rcases h2 with ⟨hn1, hn2⟩ | ⟨hn1, hn2⟩
      all_goals
        repeat' (first | (simp -dsimp only [↓reduceIte, go_sem, t0, t3, t4, hn1, hn2]) | (refine arr_intro fun _ => ?_) | (rw [wrap_i64 (by omega) (by omega)]) | (refine guardV_split (fun h => ?_) (fun h => ?_) <;> (try rw [h]) <;> (try simp at h) <;> (try (exfalso; omega))))
        exact hK _ _ hg.x hg.t hg.c
theorem ext_known {a b : AST} {k : Nat} {o : AObj} (h : Ext a b) (ho : a.objs[k]? = some o) : b.objs[k]? = some o := by
  obtain ⟨O, T, rfl⟩ := h
  rw [List.getElem?_append_left (List.getElem?_eq_some_iff.1 ho).1]; exact ho
theorem canApp_keep {s s' : AST} {tk : Tk} {n e : Nat} (h : Ext s s') (hc : canApp s tk n e) : canApp s' tk n e := by
  obtain ⟨O, T, rfl⟩ := h
  cases tk with
  | full => trivial
  | own k => simp only [canApp] at hc ⊢; rw [List.getElem?_append_left (List.getElem?_eq_some_iff.1 hc).1]; exact hc
  | none => exact hc.elim
  | lit => exact hc.elim
/-- Both lists that views makes, in memory. -/
structure VS (σ0 s : AST) (c1 c2 : Nat) (V : List (List UInt8 × Int)) : Prop where
  x : Ext σ0 s
  d : c1 ≠ c2
  n1 : σ0.objs.length ≤ c1
  n2 : σ0.objs.length ≤ c2
  o : ∃ tv ta, s.objs[c1]? = some (.cells (.slice tv (V.map fun x => .str x.1))) ∧ s.objs[c2]? = some (.cells (.slice ta (V.map fun x => .int .i64 x.2))) ∧ tkNew σ0 tv ∧ tkNew σ0 ta ∧ apart tv ta ∧ canApp s tv V.length 1 ∧ canApp s ta V.length 1
theorem VS.ext {σ0 s s' : AST} {c1 c2 : Nat} {V : List (List UInt8 × Int)} (h : VS σ0 s c1 c2 V) (e : Ext s s') : VS σ0 s' c1 c2 V := by
  obtain ⟨tv, ta, a, b, c, d, f, g, k⟩ := h.o
  exact ⟨h.x.trans e, h.d, h.n1, h.n2, tv, ta, ext_known e a, ext_known e b, c, d, f, canApp_keep e g, canApp_keep e k⟩
/-- What a post adds to the views. -/
noncomputable def vStep (i : Nat) (p : Post) : List (List UInt8 × Int) := if (getR p.b).2 = 0 ∧ comM32 (getR p.b).1 then [((getR p.b).1.view, (i : Int))] else []
noncomputable def vws (l : List Post) : Nat → List (List UInt8 × Int)
  | 0 => []
  | i + 1 => vws l i ++ (match l[i]? with
    | some p => vStep i p
    | none => [])
theorem vws_len {l : List Post} : ∀ {i : Nat}, (vws l i).length ≤ i
  | 0 => by simp [vws]
  | i + 1 => by
    have := vws_len (l := l) (i := i)
    unfold vws
    rw [List.length_append]
    cases l[i]? with
    | none => simp; omega
    | some p =>
      have : (vStep i p).length ≤ 1 := by unfold vStep; split <;> simp
      simp only; omega
theorem fits30' {v : AV} : fits Tryz.prog 24 v = (v.isAgg = false ∧ v.size = 1) := fits_leaf (by kernel_rfl) (by kernel_rfl)
theorem fits51' {v : AV} : fits Tryz.prog 25 v = (v.isAgg = false ∧ v.size = 1) := fits_leaf (by kernel_rfl) (by kernel_rfl)
attribute [local go_sem] fits30' fits51'
theorem E51i : ElemT Tryz.prog 25 3 1 8 := ⟨rfl, by kernel_rfl, by kernel_rfl, ⟨_, of_eq_true zt3⟩, by decide⟩
theorem E30s : ElemT Tryz.prog 24 9 1 16 := Go.Aff.L09.E33
theorem size_s {l : List (List UInt8 × Int)} : ∀ v ∈ l.map (fun x => AV.str x.1), v.size = 1 := by
  intro v hv; obtain ⟨x, _, rfl⟩ := List.mem_map.1 hv; rfl
theorem size_i {l : List (List UInt8 × Int)} : ∀ v ∈ l.map (fun x => AV.int .i64 x.2), v.size = 1 := by
  intro v hv; obtain ⟨x, _, rfl⟩ := List.mem_map.1 hv; rfl
theorem append_s {V : List (List UInt8 × Int)} {x : List UInt8 × Int} {tk tk2 : Tk} {σ : AST} {K : AV → AST → Prop} (hca : canApp σ tk V.length 1) (hl : V.length ≤ 1000) (hK : K (.slice (growT σ tk) ((V ++ [x]).map fun x => .str x.1)) (growS σ tk (V.length + 1) 1)) :
    appendW Tryz.prog ⟨[24, 24]⟩ (.slice tk (V.map fun x => .str x.1)) (.slice tk2 [.str x.1]) σ K := by
  refine append_slice E30s rfl (by rw [List.length_map]; exact hca) (by intro v hv; simp at hv; subst hv; rfl) size_s (by simp; omega) (by simp [maxL]; omega) ?_
  simpa using hK
theorem append_i {V : List (List UInt8 × Int)} {x : List UInt8 × Int} {tk tk2 : Tk} {σ : AST} {K : AV → AST → Prop} (hca : canApp σ tk V.length 1) (hl : V.length ≤ 1000) (hK : K (.slice (growT σ tk) ((V ++ [x]).map fun x => .int .i64 x.2)) (growS σ tk (V.length + 1) 1)) :
    appendW Tryz.prog ⟨[25, 25]⟩ (.slice tk (V.map fun x => .int .i64 x.2)) (.slice tk2 [.int .i64 x.2]) σ K := by
  refine append_slice E51i rfl (by rw [List.length_map]; exact hca) (by intro v hv; simp at hv; subst hv; rfl) size_i (by simp; omega) (by simp [maxL]; omega) ?_
  simpa using hK
theorem view1_c {σ0 s : AST} {c1 c2 : Nat} {V : List (List UInt8 × Int)} {i : Nat} {p : Post} {t u : Tk} {K : AV → AST → Prop} (h : VS σ0 s c1 c2 V) (hl : V.length ≤ 1000) (hK : ∀ s', VS σ0 s' c1 c2 (V ++ vStep i p) → K (.tuple []) s') :
    TCalls Tryz.prog 44 [.int .i64 i, msgV t u (getR p.b).1, .bool ((getR p.b).2 == 0), .ptr (some (c1, [])), .ptr (some (c2, []))] s K := by
  unfold vStep at hK
  generalize getR p.b = r at hK ⊢
  have hx := h.ext (Ext.app s [.cells (msgV t u r.1)])
  refine tcalls_walk Tryz.f44 _ [] Tryz.func44 rfl rfl rfl mixed (Nat.le_of_ble_eq_true rfl) rfl fun hlen => ?_
  by_cases hc : r.2 = 0 ∧ comM32 r.1
  · rw [if_pos hc] at hK
    obtain ⟨he, hm⟩ := hc
    obtain ⟨tv, ta, o1, o2, n1, n2, ap, cv, ca⟩ := hx.o
    have hd := hx.d
    generalize hs1 : s.app [.cells (msgV t u r.1)] = s1 at hx o1 o2 cv ca
    have g1 : ∀ n, (growS s1 tv n 1).objs[c1]? = some (.cells (.slice tv (V.map fun x => .str x.1))) := fun n => by rw [growS_objs]; exact o1
    have g2 : ∀ n o, ((growS s1 tv n 1).set c1 o).objs[c2]? = some (.cells (.slice ta (V.map fun x => .int .i64 x.2))) := fun n o => by rw [objs_setN' hd, growS_objs]; exact o2
    have g3 : ∀ n m o, (growS ((growS s1 tv n 1).set c1 o) ta m 1).objs[c2]? = some (.cells (.slice ta (V.map fun x => .int .i64 x.2))) := fun n m o => by rw [growS_objs]; exact g2 n o
    have k2 := fun n o => cellAt_known (g2 n o)
    have ca2 : ∀ o, canApp ((growS s1 tv (V.length + 1) 1).set c1 o) ta V.length 1 := fun o => by rw [canApp_set]; exact canApp_apart ap ca
    have b1 : s1.objs[s.objs.length]? = some (.cells (msgV t u r.1)) := by rw [← hs1]; exact objs_app0
    have cb1 := cellAt_known b1
    have q1 := cellAt_known o1
    have q2 := cellAt_known o2
    repeat' (first | (simp -dsimp only [↓reduceIte, go_sem, he, hm, q1, q2, o1, o2, hs1, g1, g2, g3, k2, cb1]) | (refine arr_intro fun _ => ?_) | (rw [wrap_i64 (by omega) (by omega)]) | (refine guardV_split (fun h => ?_) (fun h => ?_) <;> (try rw [h]) <;> (try simp at h) <;> (try (exfalso; omega))) | ((refine commit_c ?_)) | (refine build_slice E30s rfl (by decide) (by intro v hv; simp at hv; subst hv; simp [go_sem]) ?_) | (refine append_s (x := (r.1.view, (i : Int))) cv hl ?_) | (refine build_slice E51i rfl (by decide) (by intro v hv; simp at hv; subst hv; simp [go_sem]) ?_) | (refine append_i (x := (r.1.view, (i : Int))) (ca2 _) hl ?_))
    refine hK _ ?_
    have e1 := (hx.x.grow (n := V.length + 1) (es := 1) n1).set (o := .cells (.slice (growT s1 tv) ((V ++ [(r.1.view, (i : Int))]).map fun x => .str x.1))) hx.n1
    have v1 : canApp ((growS s1 tv (V.length + 1) 1).set c1 (.cells (.slice (growT s1 tv) ((V ++ [(r.1.view, (i : Int))]).map fun x => .str x.1)))) (growT s1 tv) (V.length + 1) 1 := by rw [canApp_set]; exact canApp_grow cv
    have a1 := ca2 (.cells (.slice (growT s1 tv) ((V ++ [(r.1.view, (i : Int))]).map fun x => .str x.1)))
    have p1 := apart_grow ap ca
    have l1 : c1 < ((growS s1 tv (V.length + 1) 1)).objs.length := by rw [growS_objs]; exact (List.getElem?_eq_some_iff.1 o1).1
    have w1 := objs_setS' (o := .cells (.slice (growT s1 tv) ((V ++ [(r.1.view, (i : Int))]).map fun x => .str x.1))) l1
    have w2 := g2 (V.length + 1) (.cells (.slice (growT s1 tv) ((V ++ [(r.1.view, (i : Int))]).map fun x => .str x.1)))
    have m1 := n1.grow hx.x
    generalize (growS s1 tv (V.length + 1) 1).set c1 (.cells (.slice (growT s1 tv) ((V ++ [(r.1.view, (i : Int))]).map fun x => .str x.1))) = s2 at *
    have l2 : c2 < (growS s2 ta (V.length + 1) 1).objs.length := by rw [growS_objs]; exact (List.getElem?_eq_some_iff.1 w2).1
    refine ⟨(e1.grow n2).set hx.n2, hd, hx.n1, hx.n2, growT s1 tv, growT s2 ta, ?_, objs_setS' l2, m1, n2.grow e1, (apart_grow p1.symm v1).symm, ?_, ?_⟩
    · rw [objs_setN' (Ne.symm hd), growS_objs]; exact w1
    · rw [canApp_set, List.length_append]; exact canApp_apart p1.symm v1
    · rw [canApp_set, List.length_append]; exact canApp_grow a1
  · rw [if_neg hc] at hK
    by_cases he : r.2 = 0
    · have hm : ¬ comM32 r.1 := fun e => hc ⟨he, e⟩
      repeat' (first | (simp -dsimp only [↓reduceIte, go_sem, he, hm]) | (refine arr_intro fun _ => ?_) | (rw [wrap_i64 (by omega) (by omega)]) | (refine guardV_split (fun h => ?_) (fun h => ?_) <;> (try rw [h]) <;> (try simp at h) <;> (try (exfalso; omega))) | ((refine commit_c ?_)))
      exact hK _ (by simpa using hx)
    · repeat' (first | (simp -dsimp only [↓reduceIte, go_sem, he]) | (refine arr_intro fun _ => ?_) | (rw [wrap_i64 (by omega) (by omega)]) | (refine guardV_split (fun h => ?_) (fun h => ?_) <;> (try rw [h]) <;> (try simp at h) <;> (try (exfalso; omega))))
      exact hK _ (by simpa using hx)
end Go.Aff.L10

/- Layer 32, walked: views. -/
-- cuts
namespace Go.Aff.L10
open Go.Proofs Go.Aff Go.Aff.L01 Classical
set_option linter.unusedVariables false
set_option linter.unusedSimpArgs false
set_option maxRecDepth 20000
attribute [local go_sem] push_app app_app length_app cellAt_app cellAt_app0 set_app set_app0 objs_app objs_app0 List.cons_append List.nil_append List.length_cons List.length_nil List.getElem?_cons_zero List.getElem?_cons_succ List.set_cons_zero List.set_cons_succ List.length_map
attribute [-go_sem] cellAt_new
attribute [-simp] List.length_flatMap
attribute [local go_sem] Tryz.underlying3 Tryz.underlying4 Tryz.underlying5 Tryz.underlying9 Tryz.underlying39 Tryz.underlying40 Tryz.underlying43 Tryz.underlying25 Tryz.underlying50 Tryz.underlying76 subPs_0 subAt_0 subSet_0 subPs_1 subAt_1 subSet_1 subPs_2 subAt_2 subSet_2 subPs_3 subAt_3 subSet_3 subPs_4 subAt_4 subSet_4 subPs_5 subAt_5 subSet_5 sizes_sub shapes_sub fits_sub zero_sub zt_sub built_sub Tryz.underlying42 pendPs_0 pendAt_0 pendSet_0 pendPs_1 pendAt_1 pendSet_1 pendPs_2 pendAt_2 pendSet_2 pendPs_3 pendAt_3 pendSet_3 pendPs_4 pendAt_4 pendSet_4 pendPs_5 pendAt_5 pendSet_5 sizes_pend shapes_pend fits_pend zero_pend zt_pend built_pend Tryz.underlying104 repPs_0 repAt_0 repSet_0 repPs_1 repAt_1 repSet_1 repPs_2 repAt_2 repSet_2 repPs_3 repAt_3 repSet_3 repPs_4 repAt_4 repSet_4 repPs_5 repAt_5 repSet_5 repPs_6 repAt_6 repSet_6 repPs_7 repAt_7 repSet_7 repPs_8 repAt_8 repSet_8 repPs_9 repAt_9 repSet_9 sizes_rep shapes_rep fits_rep zero_rep zt_rep built_rep Tryz.underlying45 blobPs_0 blobAt_0 blobSet_0 blobPs_1 blobAt_1 blobSet_1 blobPs_2 blobAt_2 blobSet_2 blobPs_3 blobAt_3 blobSet_3 sizes_blob shapes_blob fits_blob zero_blob zt_blob built_blob Tryz.underlying47 msgPs_0 msgAt_0 msgSet_0 msgPs_1 msgAt_1 msgSet_1 msgPs_2 msgAt_2 msgSet_2 msgPs_3 msgAt_3 msgSet_3 msgPs_4 msgAt_4 msgSet_4 msgPs_5 msgAt_5 msgSet_5 msgPs_6 msgAt_6 msgSet_6 msgPs_7 msgAt_7 msgSet_7 msgPs_8 msgAt_8 msgSet_8 msgPs_9 msgAt_9 msgSet_9 sizes_msg shapes_msg fits_msg zero_msg zt_msg built_msg Tryz.underlying49 at_Ps_0 at_Set_0 at_Ps_1 at_Set_1 sizes_at_ shapes_at_
attribute [local go_sem] fits3 fits4 fits5 fits9 fits23 fits26 fits31 fits34 fits52 zt3 zero3 zt34 zero34 zt23 zero23 bin_sub_eql bin_pend_eql bin_pend_neq bin_blob_eql bin_dig23_eql bin_dig23_neq slice23
attribute [local go_sem ↓] blockQ_exit2
attribute [local simp] dig_ext
attribute [local go_sem] postPs_0 postAt_0 postSet_0 postPs_1 postAt_1 postSet_1 postPs_2 postAt_2 postSet_2 sizes_post shapes_post fits_post zero_post zt_post built_post Tryz.underlying38 keyPs_0 keyAt_0 keySet_0 keyPs_1 keyAt_1 keySet_1 keyPs_2 keyAt_2 keySet_2 sizes_key shapes_key fits_key zero_key zt_key built_key Tryz.underlying87 conPs_0 conAt_0 conSet_0 conPs_1 conAt_1 conSet_1 sizes_con shapes_con fits_con zero_con zt_con built_con Tryz.underlying89 Tryz.underlying22 Tryz.underlying28 Tryz.underlying29 Tryz.underlying31 Tryz.underlying24 Tryz.underlying25 Tryz.underlying125 Tryz.underlying127 Tryz.underlying128 Tryz.underlying130
theorem vws_next {l : List Post} {i : Nat} {p : Post} (h : l[i]? = some p) : vws l (i + 1) = vws l i ++ vStep i p := by
  show vws l i ++ _ = _
  rw [h]
theorem zs30 : ZeroOf Tryz.prog 24 (.slice .full []) = True := eq_true ⟨_, _, rfl, rfl, rfl, rfl, rfl⟩
theorem zs51 : ZeroOf Tryz.prog 25 (.slice .full []) = True := eq_true ⟨_, _, rfl, rfl, rfl, rfl, rfl⟩
theorem za30 : zeroA Tryz.prog 12 24 = .slice .full [] := by kernel_rfl
theorem za51 : zeroA Tryz.prog 12 25 = .slice .full [] := by kernel_rfl
attribute [local go_sem] zs30 zs51 za30 za51 fits30' fits51'
theorem views_c {ps : List Post} {ta : Tk} {σ : AST} {K : AV → AST → Prop} (hl : ps.length ≤ 1000) (hK : ∀ s tv tw, Ext σ s → K (.tuple [.slice tv ((vws ps ps.length).map fun x => .str x.1), .slice tw ((vws ps ps.length).map fun x => .int .i64 x.2)]) s) : TCalls Tryz.prog 19 [.slice ta (ps.map postV)] σ K := by
  have hV0 : VS σ (σ.app [.cells (.slice .full []), .cells (.slice .full [])]) σ.objs.length (σ.objs.length + 1) (vws ps 0) := by
    refine ⟨Ext.app _ _, by omega, by omega, by omega, .full, .full, ?_, ?_, .inl rfl, .inl rfl, apart_full, trivial, trivial⟩
    · simp [AST.app, vws]
    · simp [AST.app, vws]
  refine tcalls_walk Tryz.f19 _ [.tmp 2, .tmp 3] Tryz.func19 rfl rfl rfl mixed (Nat.le_of_ble_eq_true rfl) rfl fun hlen => ?_
  repeat' (first | (simp -dsimp only [↓reduceIte, go_sem]) | (refine arr_intro fun _ => ?_) | (refine later_intro ⟨keeps_nil, ?_⟩) | (refine later_intro ⟨keeps_refl, ?_⟩) | (refine both_ways ?_ ?_) | (rw [wrap_i64 (by omega) (by omega)]) | (refine guardV_split (fun h => ?_) (fun h => ?_) <;> (try rw [h]) <;> (try simp at h) <;> (try (exfalso; omega))))
  refine ⟨by intro x hx; simp only [List.mem_cons, List.not_mem_nil, or_false] at hx; rcases hx with rfl | rfl <;> simp only [go_sem], later_intro ?_⟩
  repeat' (first | (simp -dsimp only [↓reduceIte, go_sem]) | (refine arr_intro fun _ => ?_) | (refine later_intro ⟨keeps_nil, ?_⟩) | (refine later_intro ⟨keeps_refl, ?_⟩) | (refine both_ways ?_ ?_) | (rw [wrap_i64 (by omega) (by omega)]) | (refine guardV_split (fun h => ?_) (fun h => ?_) <;> (try rw [h]) <;> (try simp at h) <;> (try (exfalso; omega))))
  refine each_c (fun i s => VS σ s σ.objs.length (σ.objs.length + 1) (vws ps i)) hV0 (fun i s s' h e => h.ext e) (fun i p s t u K' hp hJ hK' => ?_) (fun s hJ => ?_)
  · have hi := (List.getElem?_eq_some_iff.1 hp).1
    have := vws_len (l := ps) (i := i)
    refine view1_c hJ (by omega) fun s' h' => hK' s' (by rw [vws_next hp]; exact h')
  · obtain ⟨tv, tw, o1, o2, _⟩ := hJ.o
    have q1 := cellAt_known o1
    have q2 := cellAt_known o2
    repeat' (first | (simp -dsimp only [↓reduceIte, go_sem, q1, q2]) | (refine arr_intro fun _ => ?_) | (refine later_intro ⟨keeps_nil, ?_⟩) | (refine later_intro ⟨keeps_refl, ?_⟩) | (refine both_ways ?_ ?_) | (rw [wrap_i64 (by omega) (by omega)]) | (refine guardV_split (fun h => ?_) (fun h => ?_) <;> (try rw [h]) <;> (try simp at h) <;> (try (exfalso; omega))) | (with_reducible refine awp_drawS (id := 4) [0, 1, 2, 3] (by kernel_rfl) ?_))
    exact hK _ _ _ hJ.x
end Go.Aff.L10

/- Layer 32, walked: Fits, Commits. -/
-- cuts
namespace Go.Aff.L10
open Go.Proofs Go.Aff Go.Aff.L01 Classical
set_option linter.unusedVariables false
set_option linter.unusedSimpArgs false
set_option maxRecDepth 20000
attribute [local go_sem] push_app app_app length_app cellAt_app cellAt_app0 set_app set_app0 objs_app objs_app0 List.cons_append List.nil_append List.length_cons List.length_nil List.getElem?_cons_zero List.getElem?_cons_succ List.set_cons_zero List.set_cons_succ List.length_map
attribute [-go_sem] cellAt_new
attribute [-simp] List.length_flatMap
attribute [local go_sem] Tryz.underlying3 Tryz.underlying4 Tryz.underlying5 Tryz.underlying9 Tryz.underlying39 Tryz.underlying40 Tryz.underlying43 Tryz.underlying25 Tryz.underlying50 Tryz.underlying76 subPs_0 subAt_0 subSet_0 subPs_1 subAt_1 subSet_1 subPs_2 subAt_2 subSet_2 subPs_3 subAt_3 subSet_3 subPs_4 subAt_4 subSet_4 subPs_5 subAt_5 subSet_5 sizes_sub shapes_sub fits_sub zero_sub zt_sub built_sub Tryz.underlying42 pendPs_0 pendAt_0 pendSet_0 pendPs_1 pendAt_1 pendSet_1 pendPs_2 pendAt_2 pendSet_2 pendPs_3 pendAt_3 pendSet_3 pendPs_4 pendAt_4 pendSet_4 pendPs_5 pendAt_5 pendSet_5 sizes_pend shapes_pend fits_pend zero_pend zt_pend built_pend Tryz.underlying104 repPs_0 repAt_0 repSet_0 repPs_1 repAt_1 repSet_1 repPs_2 repAt_2 repSet_2 repPs_3 repAt_3 repSet_3 repPs_4 repAt_4 repSet_4 repPs_5 repAt_5 repSet_5 repPs_6 repAt_6 repSet_6 repPs_7 repAt_7 repSet_7 repPs_8 repAt_8 repSet_8 repPs_9 repAt_9 repSet_9 sizes_rep shapes_rep fits_rep zero_rep zt_rep built_rep Tryz.underlying45 blobPs_0 blobAt_0 blobSet_0 blobPs_1 blobAt_1 blobSet_1 blobPs_2 blobAt_2 blobSet_2 blobPs_3 blobAt_3 blobSet_3 sizes_blob shapes_blob fits_blob zero_blob zt_blob built_blob Tryz.underlying47 msgPs_0 msgAt_0 msgSet_0 msgPs_1 msgAt_1 msgSet_1 msgPs_2 msgAt_2 msgSet_2 msgPs_3 msgAt_3 msgSet_3 msgPs_4 msgAt_4 msgSet_4 msgPs_5 msgAt_5 msgSet_5 msgPs_6 msgAt_6 msgSet_6 msgPs_7 msgAt_7 msgSet_7 msgPs_8 msgAt_8 msgSet_8 msgPs_9 msgAt_9 msgSet_9 sizes_msg shapes_msg fits_msg zero_msg zt_msg built_msg Tryz.underlying49 at_Ps_0 at_Set_0 at_Ps_1 at_Set_1 sizes_at_ shapes_at_
attribute [local go_sem] fits3 fits4 fits5 fits9 fits23 fits26 fits31 fits34 fits52 zt3 zero3 zt34 zero34 zt23 zero23 bin_sub_eql bin_pend_eql bin_pend_neq bin_blob_eql bin_dig23_eql bin_dig23_neq slice23
attribute [local go_sem ↓] blockQ_exit2
attribute [local simp] dig_ext
attribute [local go_sem] postPs_0 postAt_0 postSet_0 postPs_1 postAt_1 postSet_1 postPs_2 postAt_2 postSet_2 sizes_post shapes_post fits_post zero_post zt_post built_post Tryz.underlying38 keyPs_0 keyAt_0 keySet_0 keyPs_1 keyAt_1 keySet_1 keyPs_2 keyAt_2 keySet_2 sizes_key shapes_key fits_key zero_key zt_key built_key Tryz.underlying87 conPs_0 conAt_0 conSet_0 conPs_1 conAt_1 conSet_1 sizes_con shapes_con fits_con zero_con zt_con built_con Tryz.underlying89 Tryz.underlying22 Tryz.underlying28 Tryz.underlying29 Tryz.underlying31 Tryz.underlying24 Tryz.underlying25 Tryz.underlying125 Tryz.underlying127 Tryz.underlying128 Tryz.underlying130
theorem commits32_c {ps : List Post} {ta : Tk} {σ : AST} {K : AV → AST → Prop} (hl : ps.length ≤ 1000) (hK : ∀ s tv, Ext σ s → K (.slice tv ((vws ps ps.length).map fun x => .str x.1)) s) : TCalls Tryz.prog 10 [.slice ta (ps.map postV)] σ K := by
  refine tcalls_walk Tryz.f10 _ [.tmp 2] Tryz.func10 rfl rfl rfl mixed (Nat.le_of_ble_eq_true rfl) rfl fun hlen => ?_
  repeat' (first | (simp -dsimp only [↓reduceIte, go_sem]) | (refine arr_intro fun _ => ?_) | (rw [wrap_i64 (by omega) (by omega)]) | (refine guardV_split (fun h => ?_) (fun h => ?_) <;> (try rw [h]) <;> (try simp at h) <;> (try (exfalso; omega))))
  refine views_c hl fun s tv tw hx => ?_
  repeat' (first | (simp -dsimp only [↓reduceIte, go_sem]) | (refine arr_intro fun _ => ?_) | (rw [wrap_i64 (by omega) (by omega)]) | (refine guardV_split (fun h => ?_) (fun h => ?_) <;> (try rw [h]) <;> (try simp at h) <;> (try (exfalso; omega))))
  exact hK _ _ hx
theorem fits32_c {ps : List Post} {ta : Tk} {σ : AST} {K : AV → AST → Prop} (hl : ps.length ≤ 1000) (hK : ∀ s a b, Ext σ s → Go.Aff.L09.ForkP ((vws ps ps.length).map (·.1)) a b → K (.bool (decide (a < 0))) s) : TCalls Tryz.prog 11 [.slice ta (ps.map postV)] σ K := by
  refine tcalls_walk Tryz.f11 _ [.tmp 2] Tryz.func11 rfl rfl rfl mixed (Nat.le_of_ble_eq_true rfl) rfl fun hlen => ?_
  repeat' (first | (simp -dsimp only [↓reduceIte, go_sem]) | (refine arr_intro fun _ => ?_) | (rw [wrap_i64 (by omega) (by omega)]) | (refine guardV_split (fun h => ?_) (fun h => ?_) <;> (try rw [h]) <;> (try simp at h) <;> (try (exfalso; omega))))
  refine views_c hl fun s tv tw hx => ?_
  have e : ((vws ps ps.length).map fun x => AV.str x.1) = ((vws ps ps.length).map (·.1)).map AV.str := by rw [List.map_map]; rfl
  rw [e]
  repeat' (first | (simp -dsimp only [↓reduceIte, go_sem]) | (refine arr_intro fun _ => ?_) | (rw [wrap_i64 (by omega) (by omega)]) | (refine guardV_split (fun h => ?_) (fun h => ?_) <;> (try rw [h]) <;> (try simp at h) <;> (try (exfalso; omega))))
  refine Go.Aff.L09.fork_c fun a b hF => ?_
  repeat' (first | (simp -dsimp only [↓reduceIte, go_sem]) | (refine arr_intro fun _ => ?_) | (rw [wrap_i64 (by omega) (by omega)]) | (refine guardV_split (fun h => ?_) (fun h => ?_) <;> (try rw [h]) <;> (try simp at h) <;> (try (exfalso; omega))))
  exact hK _ _ _ hx hF
end Go.Aff.L10

/- Layer 32, plainly: what a report holds. -/
namespace Go.Aff.L10
open Go.Proofs Go.Aff Go.Aff.L01 Classical
set_option linter.unusedVariables false
noncomputable section
theorem getR_ok {b : List UInt8} (h : (getR b).2 = 0) : (getR b).1.Ok := by
  unfold getR at h ⊢
  split
  · rename_i h0; rw [if_pos h0] at h; exact absurd h h0
  · rename_i h0
    rw [if_neg h0] at h
    split
    · rename_i h1; rw [if_pos h1] at h; cases h
    · rename_i h1; exact Classical.not_not.1 fun h2 => h1 (.inr h2)
theorem Msg.Ok.kind_in {m : Msg} (h : m.Ok) : 1 ≤ m.kind ∧ m.kind ≤ 11 := by
  have h := h.1
  unfold Msg.FieldsOk at h
  split at h
  · omega
  split at h
  · omega
  split at h
  · omega
  split at h
  · omega
  split at h
  · omega
  split at h
  · omega
  · omega
/-- The class of a post: its message's kind; of what is none: 0. -/
def kd (p : Post) : Nat := if (getR p.b).2 = 0 then (getR p.b).1.kind.toNat else 0
theorem kd_lt {p : Post} : kd p < 12 := by
  unfold kd; split
  · rename_i h; have := (getR_ok h).kind_in; omega
  · omega
def isSub (p : Post) (c : Nat) : Prop := (getR p.b).2 = 0 ∧ (getR p.b).1.kind = 1 ∧ (getR p.b).1.client = c
def kindsN (l : List Post) (j : Nat) : Int := ((l.countP fun p => decide (kd p = j) : Nat) : Int)
def last1 (c : Nat) (m : Int) (p : Post) : Int := if isSub p c then max m (getR p.b).1.sub.num else m
def lastN (l : List Post) (c : Nat) : Int := l.foldl (last1 c) 0
theorem kindsN_snoc {l : List Post} {p : Post} {j : Nat} : kindsN (l ++ [p]) j = if kd p = j then kindsN l j + 1 else kindsN l j := by
  unfold kindsN
  rw [List.countP_append]
  by_cases h : kd p = j <;> simp [h]
theorem lastN_snoc {l : List Post} {p : Post} {c : Nat} : lastN (l ++ [p]) c = last1 c (lastN l c) p := by
  unfold lastN; rw [List.foldl_append]; rfl
theorem kindsN_app {l m : List Post} {j : Nat} : kindsN (l ++ m) j = kindsN l j + kindsN m j := by
  unfold kindsN; rw [List.countP_append]; push_cast; rfl
theorem kindsN_perm {l m : List Post} (h : l.Perm m) {j : Nat} : kindsN l j = kindsN m j := by
  unfold kindsN; rw [h.countP_eq]
theorem last_ge {c : Nat} : ∀ {l : List Post} {a : Int}, a ≤ l.foldl (last1 c) a
  | [], a => Int.le_refl _
  | p :: l, a => Int.le_trans (by unfold last1; split <;> omega) (last_ge (l := l) (a := last1 c a p))
theorem last_le {c : Nat} {b : Int} : ∀ {l : List Post} {a : Int}, a ≤ b → (∀ p ∈ l, isSub p c → (getR p.b).1.sub.num ≤ b) → l.foldl (last1 c) a ≤ b
  | [], a, h, _ => h
  | p :: l, a, h, hl => by
    refine last_le (l := l) (a := last1 c a p) ?_ fun q hq => hl q (List.mem_cons_of_mem _ hq)
    unfold last1
    split
    · rename_i hs
      have := hl p (List.mem_cons_self ..) hs
      omega
    · exact h
theorem last_mem {c : Nat} : ∀ {l : List Post} {a : Int} {p : Post}, p ∈ l → isSub p c → (getR p.b).1.sub.num ≤ l.foldl (last1 c) a
  | q :: l, a, p, hp, hs => by
    rcases List.mem_cons.1 hp with rfl | hp
    · refine Int.le_trans ?_ (last_ge (l := l) (a := last1 c a p))
      unfold last1; rw [if_pos hs]; omega
    · exact last_mem (l := l) hp hs
/-- The greatest number: whatever holds the same posts has the same. -/
theorem lastN_mono {c : Nat} {l m : List Post} (h : ∀ p ∈ l, p ∈ m) : lastN l c ≤ lastN m c := last_le last_ge fun p hp hs => last_mem (h p hp) hs
theorem lastN_same {c : Nat} {l m : List Post} (h : ∀ p, p ∈ l ↔ p ∈ m) : lastN l c = lastN m c := Int.le_antisymm (lastN_mono fun p hp => (h p).1 hp) (lastN_mono fun p hp => (h p).2 hp)
theorem lastN_app {c : Nat} {l m : List Post} : lastN (l ++ m) c = max (lastN l c) (lastN m c) := by
  refine Int.le_antisymm (last_le (by have := last_ge (c := c) (l := l) (a := 0); unfold lastN; omega) fun p hp hs => ?_) ?_
  · rcases List.mem_append.1 hp with hp | hp
    · have := last_mem (a := 0) hp hs; unfold lastN; omega
    · have := last_mem (a := 0) hp hs; unfold lastN; omega
  · have h1 := lastN_mono (c := c) (l := l) (m := l ++ m) fun p hp => List.mem_append_left _ hp
    have h2 := lastN_mono (c := c) (l := m) (m := l ++ m) fun p hp => List.mem_append_right _ hp
    omega
/-- What posts hold of numbers: whose, and the bytes. -/
def cont1 (p : Post) : List (Key × List UInt8) := if (getR p.b).2 = 0 ∧ (named (getR p.b).1).2 = true then [((named (getR p.b).1).1, p.b)] else []
def conts (l : List Post) : List (Key × List UInt8) := l.flatMap cont1
theorem conts_snoc {l : List Post} {p : Post} : conts (l ++ [p]) = conts l ++ cont1 p := by simp [conts]
theorem conts_app {l m : List Post} : conts (l ++ m) = conts l ++ conts m := by simp [conts]
def twiceN (l : List Post) : Nat := L32.twos (conts l)
theorem twiceN_same {l m : List Post} (h : ∀ p, p ∈ l ↔ p ∈ m) : twiceN l = twiceN m := L32.twos_same fun x => by
  simp only [conts, List.mem_flatMap]
  exact ⟨fun ⟨p, hp, hx⟩ => ⟨p, (h p).1 hp, hx⟩, fun ⟨p, hp, hx⟩ => ⟨p, (h p).2 hp, hx⟩⟩
theorem twiceN_mono {l m : List Post} (h : ∀ p ∈ l, p ∈ m) : twiceN l ≤ twiceN m := L32.twos_mono fun x => by
  simp only [conts, List.mem_flatMap]
  exact fun ⟨p, hp, hx⟩ => ⟨p, h p hp, hx⟩
/-- The views of posts. -/
def view1 (p : Post) : List (List UInt8) := if (getR p.b).2 = 0 ∧ comM32 (getR p.b).1 then [(getR p.b).1.view] else []
def vwsV (l : List Post) : List (List UInt8) := l.flatMap view1
theorem vwsV_app {l m : List Post} : vwsV (l ++ m) = vwsV l ++ vwsV m := by simp [vwsV]
theorem vws_take {l : List Post} : ∀ {i : Nat}, i ≤ l.length → (vws l i).map (·.1) = vwsV (l.take i)
  | 0, _ => by simp [vws, vwsV]
  | i + 1, h => by
    have hx : l[i]? = some l[i] := List.getElem?_eq_getElem (by omega)
    rw [vws_next hx, List.map_append, vws_take (by omega), List.take_add_one, hx, vwsV_app]
    congr 1
    simp only [Option.toList_some, vwsV, List.flatMap_cons, List.flatMap_nil, List.append_nil]
    unfold vStep view1
    split <;> rfl
theorem vws_views {l : List Post} : (vws l l.length).map (·.1) = vwsV l := by rw [vws_take (Nat.le_refl _), List.take_length]
/-- Do all views fit? -/
def allFit (V : List (List UInt8)) : Prop := ∀ x ∈ V, ∀ y ∈ V, L09.fit x y = true
theorem fit_refl {a : List UInt8} : L09.fit a a = true := by simp [L09.fit]
theorem allBefore_all {V : List (List UInt8)} : L09.allBefore V V.length 0 ↔ allFit V := by
  constructor
  · intro h x hx y hy
    obtain ⟨i, hi⟩ := List.mem_iff_getElem?.1 hx
    obtain ⟨k, hk⟩ := List.mem_iff_getElem?.1 hy
    have h1 := (List.getElem?_eq_some_iff.1 hi).1
    have h2 := (List.getElem?_eq_some_iff.1 hk).1
    by_cases e : i = k
    · subst e; rw [hi] at hk; cases hk; exact fit_refl
    · by_cases hlt : i < k
      · exact h k i hlt (.inl h2) x y hi hk
      · rw [L09.fit_symm]; exact h i k (by omega) (.inl h1) y x hk hi
  · intro h k i h1 h2 x y hx hy
    exact h x (List.mem_of_getElem? hx) y (List.mem_of_getElem? hy)
theorem fork_fits {V : List (List UInt8)} {a b : Int} (h : L09.ForkP V a b) : a < 0 ↔ allFit V := by
  rcases h with ⟨i, k, x, y, h1, hx, hy, hf, hb, rfl, rfl⟩ | ⟨hb, rfl, rfl⟩
  · refine ⟨fun h => by omega, fun h => ?_⟩
    have := h x (List.mem_of_getElem? hx) y (List.mem_of_getElem? hy)
    rw [hf] at this; cases this
  · exact ⟨fun _ => allBefore_all.1 hb, fun _ => by omega⟩
theorem allFit_mono {V W : List (List UInt8)} (h : ∀ x ∈ V, x ∈ W) (hW : allFit W) : allFit V := fun x hx y hy => hW x (h x hx) y (h y hy)
end
theorem vws_app {l m : List Post} : ∀ {i : Nat}, i ≤ l.length → vws (l ++ m) i = vws l i
  | 0, _ => rfl
  | i + 1, h => by
    have hx : l[i]? = some l[i] := List.getElem?_eq_getElem (by omega)
    have hx' : (l ++ m)[i]? = some l[i] := by rw [List.getElem?_append_left (by omega)]; exact hx
    rw [vws_next hx, vws_next hx', vws_app (by omega)]
theorem vws_prefix {l : List Post} {i : Nat} : ∀ {d : Nat}, vws l i <+: vws l (i + d)
  | 0 => List.prefix_refl _
  | d + 1 => by
    refine (vws_prefix (l := l) (i := i) (d := d)).trans ?_
    show _ <+: vws l (i + d) ++ _
    exact List.prefix_append _ _
theorem vws_ge {l : List Post} : ∀ {i : Nat}, ∀ x ∈ vws l i, 0 ≤ x.2
  | 0, x, h => by simp [vws] at h
  | i + 1, x, h => by
    unfold vws at h
    rcases List.mem_append.1 h with h | h
    · exact vws_ge x h
    · cases hp : l[i]? with
      | none => simp [hp] at h
      | some p =>
        simp only [hp] at h
        unfold vStep at h
        split at h
        · simp at h; subst h; simp
        · cases h
/-- The places of the first two that do not fit. -/
def RepP (l : List Post) (F T : Int) : Prop := ∃ a b, L09.ForkP (vwsV l) a b ∧ ((a < 0 ∧ F = -1 ∧ T = -1) ∨ (0 ≤ a ∧ 0 ≤ b ∧ ((vws l l.length).map (·.2))[a.toNat]? = some F ∧ ((vws l l.length).map (·.2))[b.toNat]? = some T))
theorem RepP.fits {l : List Post} {F T : Int} (h : RepP l F T) : F < 0 ↔ allFit (vwsV l) := by
  obtain ⟨a, b, hF, h⟩ := h
  rw [← fork_fits hF]
  rcases h with ⟨h1, rfl, rfl⟩ | ⟨h1, h2, h3, h4⟩
  · exact ⟨fun _ => h1, fun _ => by omega⟩
  · refine ⟨fun h => ?_, fun h => by omega⟩
    obtain ⟨x, hx, rfl⟩ := List.mem_map.1 (List.mem_of_getElem? h3)
    have := vws_ge x hx
    omega
theorem RepP.neg {l : List Post} {F T : Int} (h : RepP l F T) (hn : F < 0) : F = -1 ∧ T = -1 := by
  have hfit := h.fits.1 hn
  obtain ⟨a, b, hF, h⟩ := h
  have ha := (fork_fits hF).2 hfit
  rcases h with ⟨h1, h2, h3⟩ | ⟨h1, h2, h3, h4⟩
  · exact ⟨h2, h3⟩
  · omega
theorem map_prefix {α β : Type} {f : α → β} {a b : List α} (h : a <+: b) : a.map f <+: b.map f := by
  obtain ⟨r, rfl⟩ := h; rw [List.map_append]; exact List.prefix_append _ _
theorem get_prefix {α : Type} {a b : List α} (h : a <+: b) {i : Nat} {x : α} (hx : a[i]? = some x) : b[i]? = some x := by
  obtain ⟨r, rfl⟩ := h; rw [List.getElem?_append_left (List.getElem?_eq_some_iff.1 hx).1]; exact hx
theorem RepP.more {l m : List Post} {F T F' T' : Int} (h : RepP l F T) (h0 : 0 ≤ F) (h' : RepP (l ++ m) F' T') : F' = F ∧ T' = T := by
  have hpre : vws l l.length <+: vws (l ++ m) (l ++ m).length := by
    rw [← vws_app (l := l) (m := m) (Nat.le_refl _), List.length_append]
    exact vws_prefix
  obtain ⟨a, b, hF, h⟩ := h
  obtain ⟨a', b', hF', h'⟩ := h'
  rcases h with ⟨_, rfl, _⟩ | ⟨h1, h2, h3, h4⟩
  · omega
  rcases hF with ⟨i, k, x, y, hik, hx, hy, hf, hb, rfl, rfl⟩ | ⟨_, rfl, _⟩
  · have e := vwsV_app (l := l) (m := m)
    have hpV : vwsV l <+: vwsV (l ++ m) := by rw [e]; exact List.prefix_append _ _
    have hb' : L09.allBefore (vwsV (l ++ m)) k i := by
      intro k' i' g1 g2 u v hu hv
      have hkl := (List.getElem?_eq_some_iff.1 hy).1
      have hil := (List.getElem?_eq_some_iff.1 hx).1
      refine hb k' i' g1 g2 u v ?_ ?_
      · rw [e, List.getElem?_append_left (by omega)] at hu; exact hu
      · rw [e, List.getElem?_append_left (by omega)] at hv; exact hv
    obtain ⟨rfl, rfl⟩ := L09.fork_found hF' hb' hik (get_prefix hpV hx) (get_prefix hpV hy) hf
    rcases h' with ⟨g, _⟩ | ⟨_, _, g3, g4⟩
    · omega
    · have e3 := get_prefix (map_prefix (f := (·.2)) hpre) h3
      have e4 := get_prefix (map_prefix (f := (·.2)) hpre) h4
      rw [e3] at g3; rw [e4] at g4
      cases g3; cases g4; exact ⟨rfl, rfl⟩
  · omega
/-- The same posts once more. -/
theorem RepP.again {l : List Post} {F T F' T' : Int} (h : RepP l F T) (h' : RepP (l ++ l) F' T') : F' = F ∧ T' = T := by
  by_cases h0 : 0 ≤ F
  · exact h.more h0 h'
  · have hn : F < 0 := by omega
    obtain ⟨rfl, rfl⟩ := h.neg hn
    have h2 : F' < 0 := h'.fits.2 (allFit_mono (fun x hx => by rw [vwsV_app] at hx; exact (List.mem_append.1 hx).elim id id) (h.fits.1 hn))
    exact h'.neg h2
theorem vwsV_mem {l m : List Post} (h : ∀ p ∈ l, p ∈ m) : ∀ x ∈ vwsV l, x ∈ vwsV m := fun x hx => by
  simp only [vwsV, List.mem_flatMap] at hx ⊢
  obtain ⟨p, hp, hx⟩ := hx
  exact ⟨p, h p hp, hx⟩
end Go.Aff.L10

/- Layer 32: reports. -/
namespace Go.Aff.L10
open Go.Proofs Go.Aff Go.Aff.L01 Classical
set_option linter.unusedVariables false
set_option linter.unusedSimpArgs false
set_option maxRecDepth 20000
structure Rpt where
  kinds : Nat → Int
  first : Int
  then_ : Int
  twice : Int
  last : Nat → Int
def rpt0 : Rpt := ⟨fun _ => 0, 0, 0, 0, fun _ => 0⟩
/-- An array of whole numbers. -/
def arrI (n : Nat) (f : Nat → Int) : List AV := (List.range n).map fun j => AV.int .i64 (f j)
def rptPs (x : Rpt) : List AV := [.agg (arrI 12 x.kinds), .int .i64 x.first, .int .i64 x.then_, .int .i64 x.twice, .agg (arrI 8 x.last)]
abbrev rptV (x : Rpt) : AV := .agg (rptPs x)
theorem arrI_len {n : Nat} {f : Nat → Int} : (arrI n f).length = n := by simp [arrI]
theorem arrI_size {n : Nat} {f : Nat → Int} : ∀ v ∈ arrI n f, v.size = 1 := by
  intro v hv; obtain ⟨j, _, rfl⟩ := List.mem_map.1 hv; rfl
theorem sizes_arrI {n : Nat} {f : Nat → Int} : AV.sizes (arrI n f) = n := by rw [sizes_all (c := 1) arrI_size, arrI_len]; omega
theorem arrI_get {n : Nat} {f : Nat → Int} {i : Nat} (h : i < n) : (arrI n f)[i]? = some (.int .i64 (f i)) := by simp [arrI, h]
theorem arrI_set {n : Nat} {f : Nat → Int} {i : Nat} {y : Int} : (arrI n f).set i (.int .i64 y) = arrI n fun j => if j = i then y else f j := by
  apply List.ext_getElem?
  intro j
  rw [List.getElem?_set]
  by_cases hj : j < n
  · by_cases e : i = j
    · subst e; simp [arrI, hj]
    · simp [arrI, hj, e, Ne.symm e]
  · have h1 : (arrI n f)[j]? = none := List.getElem?_eq_none (by rw [arrI_len]; omega)
    have h2 : (arrI n fun j => if j = i then y else f j)[j]? = none := List.getElem?_eq_none (by rw [arrI_len]; omega)
    rw [h1, h2]
    by_cases e : i = j
    · subst e; rw [if_pos rfl, arrI_len, if_neg hj]
    · rw [if_neg e]
theorem shapes_arrI {n : Nat} {f : Nat → Int} : AV.shapes (arrI n f) = List.replicate n .leaf := by
  rw [AV.shapes_eq_map, arrI, List.map_map]
  apply List.ext_getElem?
  intro i
  by_cases h : i < n <;> simp [h, AV.shape]
theorem arrI_ext {n : Nat} {f h : Nat → Int} (e : ∀ j, j < n → f j = h j) : arrI n f = arrI n h := List.map_congr_left fun j hj => by rw [e j (by simpa using hj)]
theorem rptPs_0 {x : Rpt} : (rptPs x)[0]? = some (.agg (arrI 12 x.kinds)) := nr rfl
theorem rptAt_0 {x : Rpt} {v : AV} : partIs Tryz.prog 31 (rptPs x) 0 v = fits Tryz.prog 28 v := by rw [partIs_of (o := 0) (T := 28) (by kernel_rfl)]; simp [rptPs, AV.sizes, AV.size]
theorem rptSet_0 {x : Rpt} {y : Nat → Int} : (rptPs x).set 0 (.agg (arrI 12 y)) = rptPs { x with kinds := y } := nr rfl
theorem rptPs_1 {x : Rpt} : (rptPs x)[1]? = some (.int .i64 x.first) := nr rfl
theorem rptAt_1 {x : Rpt} {v : AV} : partIs Tryz.prog 31 (rptPs x) 1 v = fits Tryz.prog 3 v := by rw [partIs_of (o := 12) (T := 3) (by kernel_rfl)]; simp [rptPs, AV.sizes, AV.size, sizes_arrI]
theorem rptSet_1 {x : Rpt} {y : Int} : (rptPs x).set 1 (.int .i64 y) = rptPs { x with first := y } := nr rfl
theorem rptPs_2 {x : Rpt} : (rptPs x)[2]? = some (.int .i64 x.then_) := nr rfl
theorem rptAt_2 {x : Rpt} {v : AV} : partIs Tryz.prog 31 (rptPs x) 2 v = fits Tryz.prog 3 v := by rw [partIs_of (o := 13) (T := 3) (by kernel_rfl)]; simp [rptPs, AV.sizes, AV.size, sizes_arrI]
theorem rptSet_2 {x : Rpt} {y : Int} : (rptPs x).set 2 (.int .i64 y) = rptPs { x with then_ := y } := nr rfl
theorem rptPs_3 {x : Rpt} : (rptPs x)[3]? = some (.int .i64 x.twice) := nr rfl
theorem rptAt_3 {x : Rpt} {v : AV} : partIs Tryz.prog 31 (rptPs x) 3 v = fits Tryz.prog 3 v := by rw [partIs_of (o := 14) (T := 3) (by kernel_rfl)]; simp [rptPs, AV.sizes, AV.size, sizes_arrI]
theorem rptSet_3 {x : Rpt} {y : Int} : (rptPs x).set 3 (.int .i64 y) = rptPs { x with twice := y } := nr rfl
theorem rptPs_4 {x : Rpt} : (rptPs x)[4]? = some (.agg (arrI 8 x.last)) := nr rfl
theorem rptAt_4 {x : Rpt} {v : AV} : partIs Tryz.prog 31 (rptPs x) 4 v = fits Tryz.prog 29 v := by rw [partIs_of (o := 15) (T := 29) (by kernel_rfl)]; simp [rptPs, AV.sizes, AV.size, sizes_arrI]
theorem rptSet_4 {x : Rpt} {y : Nat → Int} : (rptPs x).set 4 (.agg (arrI 8 y)) = rptPs { x with last := y } := nr rfl
theorem sizes_rpt {x : Rpt} : AV.sizes (rptPs x) = 23 := by simp [rptPs, AV.sizes, AV.size, sizes_arrI]
theorem shapes_rpt {x : Rpt} : AV.shapes (rptPs x) = [.node (List.replicate 12 .leaf), .leaf, .leaf, .leaf, .node (List.replicate 8 .leaf)] := by simp only [rptPs, AV.shapes, AV.shape, shapes_arrI]
theorem fits_rpt {v : AV} : fits Tryz.prog 31 v = (v.isAgg = true ∧ v.size = 23) := fits_agg (by kernel_rfl) (by kernel_rfl)
theorem zero_rpt : zeroA Tryz.prog 12 31 = .agg (rptPs rpt0) := by kernel_rfl
theorem zt_rpt : ZeroOf Tryz.prog 31 (.agg (rptPs rpt0)) = True := eq_true ⟨_, _, rfl, rfl, rfl, rfl, rfl⟩
theorem built_rpt : Built Tryz.prog 31 = True := eq_true (by unfold Built; rw [Tryz.underlying31]; decide +kernel)
theorem strips_arrI {n : Nat} {f : Nat → Int} : AV.strips (arrI n f) = arrI n f := by
  unfold arrI; induction List.range n with
  | nil => rfl
  | cons a l ih => simp only [List.map_cons, AV.strips, AV.strip, ih]
theorem noRefs_arrI {n : Nat} {f : Nat → Int} : AV.noRefs (arrI n f) = true := by
  unfold arrI; induction List.range n with
  | nil => rfl
  | cons a l ih => simp only [List.map_cons, AV.noRefs, AV.noRef, ih, Bool.and_self]
theorem strip_rpt {x : Rpt} : AV.strips (rptPs x) = rptPs x := by simp [rptPs, AV.strips, AV.strip, strips_arrI]
theorem noRef_rpt {x : Rpt} : AV.noRefs (rptPs x) = true := by simp [rptPs, AV.noRefs, AV.noRef, noRefs_arrI]
theorem fits24 {v : AV} : fits Tryz.prog 28 v = (v.isAgg = true ∧ v.size = 12) := fits_agg (by kernel_rfl) (by kernel_rfl)
theorem fits25 {v : AV} : fits Tryz.prog 29 v = (v.isAgg = true ∧ v.size = 8) := fits_agg (by kernel_rfl) (by kernel_rfl)
end Go.Aff.L10

/- Layer 32, walked: what Read does with one post. -/
-- cuts
namespace Go.Aff.L10
open Go.Proofs Go.Aff Go.Aff.L01 Classical
set_option linter.unusedVariables false
set_option linter.unusedSimpArgs false
set_option maxRecDepth 20000
attribute [local go_sem] push_app app_app length_app cellAt_app cellAt_app0 set_app set_app0 objs_app objs_app0 List.cons_append List.nil_append List.length_cons List.length_nil List.getElem?_cons_zero List.getElem?_cons_succ List.set_cons_zero List.set_cons_succ List.length_map
attribute [-go_sem] cellAt_new
attribute [-simp] List.length_flatMap
attribute [local go_sem] Tryz.underlying3 Tryz.underlying4 Tryz.underlying5 Tryz.underlying9 Tryz.underlying39 Tryz.underlying40 Tryz.underlying43 Tryz.underlying25 Tryz.underlying50 Tryz.underlying76 subPs_0 subAt_0 subSet_0 subPs_1 subAt_1 subSet_1 subPs_2 subAt_2 subSet_2 subPs_3 subAt_3 subSet_3 subPs_4 subAt_4 subSet_4 subPs_5 subAt_5 subSet_5 sizes_sub shapes_sub fits_sub zero_sub zt_sub built_sub Tryz.underlying42 pendPs_0 pendAt_0 pendSet_0 pendPs_1 pendAt_1 pendSet_1 pendPs_2 pendAt_2 pendSet_2 pendPs_3 pendAt_3 pendSet_3 pendPs_4 pendAt_4 pendSet_4 pendPs_5 pendAt_5 pendSet_5 sizes_pend shapes_pend fits_pend zero_pend zt_pend built_pend Tryz.underlying104 repPs_0 repAt_0 repSet_0 repPs_1 repAt_1 repSet_1 repPs_2 repAt_2 repSet_2 repPs_3 repAt_3 repSet_3 repPs_4 repAt_4 repSet_4 repPs_5 repAt_5 repSet_5 repPs_6 repAt_6 repSet_6 repPs_7 repAt_7 repSet_7 repPs_8 repAt_8 repSet_8 repPs_9 repAt_9 repSet_9 sizes_rep shapes_rep fits_rep zero_rep zt_rep built_rep Tryz.underlying45 blobPs_0 blobAt_0 blobSet_0 blobPs_1 blobAt_1 blobSet_1 blobPs_2 blobAt_2 blobSet_2 blobPs_3 blobAt_3 blobSet_3 sizes_blob shapes_blob fits_blob zero_blob zt_blob built_blob Tryz.underlying47 msgPs_0 msgAt_0 msgSet_0 msgPs_1 msgAt_1 msgSet_1 msgPs_2 msgAt_2 msgSet_2 msgPs_3 msgAt_3 msgSet_3 msgPs_4 msgAt_4 msgSet_4 msgPs_5 msgAt_5 msgSet_5 msgPs_6 msgAt_6 msgSet_6 msgPs_7 msgAt_7 msgSet_7 msgPs_8 msgAt_8 msgSet_8 msgPs_9 msgAt_9 msgSet_9 sizes_msg shapes_msg fits_msg zero_msg zt_msg built_msg Tryz.underlying49 at_Ps_0 at_Set_0 at_Ps_1 at_Set_1 sizes_at_ shapes_at_
attribute [local go_sem] fits3 fits4 fits5 fits9 fits23 fits26 fits31 fits34 fits52 zt3 zero3 zt34 zero34 zt23 zero23 bin_sub_eql bin_pend_eql bin_pend_neq bin_blob_eql bin_dig23_eql bin_dig23_neq slice23
attribute [local go_sem ↓] blockQ_exit2
attribute [local simp] dig_ext
attribute [local go_sem] postPs_0 postAt_0 postSet_0 postPs_1 postAt_1 postSet_1 postPs_2 postAt_2 postSet_2 sizes_post shapes_post fits_post zero_post zt_post built_post Tryz.underlying38 keyPs_0 keyAt_0 keySet_0 keyPs_1 keyAt_1 keySet_1 keyPs_2 keyAt_2 keySet_2 sizes_key shapes_key fits_key zero_key zt_key built_key Tryz.underlying87 conPs_0 conAt_0 conSet_0 conPs_1 conAt_1 conSet_1 sizes_con shapes_con fits_con zero_con zt_con built_con Tryz.underlying89 Tryz.underlying22 Tryz.underlying28 Tryz.underlying29 Tryz.underlying31 Tryz.underlying24 Tryz.underlying25 Tryz.underlying125 Tryz.underlying127 Tryz.underlying128 Tryz.underlying130
attribute [local go_sem] fits30' fits51' rptPs_0 rptAt_0 rptSet_0 rptPs_1 rptAt_1 rptSet_1 rptPs_2 rptAt_2 rptSet_2 rptPs_3 rptAt_3 rptSet_3 rptPs_4 rptAt_4 rptSet_4 sizes_rpt shapes_rpt fits_rpt zero_rpt zt_rpt built_rpt fits24 fits25 sizes_arrI shapes_arrI arrI_len
theorem rat0 {x : Rpt} {k : Nat} (h : k < 12) : (AV.agg (rptPs x)).at [0, k] = some (.int .i64 (x.kinds k)) := by
  have := arrI_get (f := x.kinds) h
  simp [AV.at, rptPs, this]
theorem rat4 {x : Rpt} {k : Nat} (h : k < 8) : (AV.agg (rptPs x)).at [4, k] = some (.int .i64 (x.last k)) := by
  have := arrI_get (f := x.last) h
  simp [AV.at, rptPs, this]
theorem rset0 {x : Rpt} {k : Nat} {y : Int} (h : k < 12) : (AV.agg (rptPs x)).setAt [0, k] (.int .i64 y) = .agg (rptPs { x with kinds := fun q => if q = k then y else x.kinds q }) := by
  have h1 := arrI_get (f := x.kinds) h
  have h2 := arrI_set (n := 12) (f := x.kinds) (i := k) (y := y)
  simp [AV.setAt, rptPs, h1, h2]
theorem rset4 {x : Rpt} {k : Nat} {y : Int} (h : k < 8) : (AV.agg (rptPs x)).setAt [4, k] (.int .i64 y) = .agg (rptPs { x with last := fun q => if q = k then y else x.last q }) := by
  have h1 := arrI_get (f := x.last) h
  have h2 := arrI_set (n := 8) (f := x.last) (i := k) (y := y)
  simp [AV.setAt, rptPs, h1, h2]
theorem rok0 {x : Rpt} {k : Nat} {v : AV} : setOk (.agg (rptPs x)) [0, k] v = True := by
  simp only [setOk, rptPs, eq_iff_iff, iff_true, List.getElem?_cons_zero, Option.some.injEq]
  rintro _ rfl
  simp only [setOk]
  intro u _; cases u <;> trivial
theorem rok4 {x : Rpt} {k : Nat} {v : AV} : setOk (.agg (rptPs x)) [4, k] v = True := by
  simp only [setOk, rptPs, eq_iff_iff, iff_true, List.getElem?_cons_succ, List.getElem?_cons_zero, Option.some.injEq]
  rintro _ rfl
  simp only [setOk]
  intro u _; cases u <;> trivial
noncomputable def rptStep (x : Rpt) (p : Post) : Rpt := { x with kinds := fun q => if q = kd p then x.kinds q + 1 else x.kinds q, last := fun c => last1 c (x.last c) p }
theorem rstep_none {x : Rpt} {p : Post} (h : ¬ (getR p.b).2 = 0) : rptStep x p = { x with kinds := fun q => if q = 0 then x.kinds 0 + 1 else x.kinds q } := by
  have h0 : kd p = 0 := by unfold kd; rw [if_neg h]
  unfold rptStep
  congr 1
  · funext q; rw [h0]; split
    · rename_i e; rw [e]
    · rfl
  · funext c; unfold last1; rw [if_neg (fun e => h e.1)]
theorem rstep_other {x : Rpt} {p : Post} {k : Nat} (h : (getR p.b).2 = 0) (hk : (getR p.b).1.kind = k) (h1 : k ≠ 1) : rptStep x p = { x with kinds := fun q => if q = k then x.kinds k + 1 else x.kinds q } := by
  have h0 : kd p = k := by unfold kd; rw [if_pos h, hk]; simp
  unfold rptStep
  congr 1
  · funext q; rw [h0]; split
    · rename_i e; rw [e]
    · rfl
  · funext c; unfold last1; rw [if_neg (fun e => h1 (by have := e.2.1; omega))]
theorem rstep_sub {x : Rpt} {p : Post} {c : Nat} (h : (getR p.b).2 = 0) (hk : (getR p.b).1.kind = 1) (hc : (getR p.b).1.client = c) : rptStep x p = { x with kinds := fun q => if q = 1 then x.kinds 1 + 1 else x.kinds q, last := fun q => if q = c then max (x.last c) (getR p.b).1.sub.num else x.last q } := by
  have h0 : kd p = 1 := by unfold kd; rw [if_pos h, hk]; rfl
  unfold rptStep
  congr 1
  · funext q; rw [h0]; split
    · rename_i e; rw [e]
    · rfl
  · funext q; unfold last1 isSub
    by_cases e : q = c
    · subst e; rw [if_pos ⟨h, hk, hc⟩, if_pos rfl]
    · rw [if_neg (fun e2 => e (by have := e2.2.2; omega)), if_neg e]
theorem cell_len {s : AST} {j : Nat} {o : AObj} (h : s.objs[j]? = some o) : j < s.objs.length := (List.getElem?_eq_some_iff.1 h).1
theorem rpt_at0 {x : Rpt} : (AV.agg (rptPs x)).at [0] = some (.agg (arrI 12 x.kinds)) := by simp [AV.at, rptPs]
theorem rpt_at4 {x : Rpt} : (AV.agg (rptPs x)).at [4] = some (.agg (arrI 8 x.last)) := by simp [AV.at, rptPs]
theorem idx0 {x : Rpt} {k j : Nat} {s : AST} {q : IntKind} {KV : AV → Prop} (ho : ∀ p, cellAt s j p = (AV.agg (rptPs x)).at p) (hk : k < 12) (hK : KV (.ptr (some (j, [0, k])))) : indexAddrW Tryz.prog s 28 (.ptr (some (j, [0]))) (.int q (k : Nat)) KV :=
  indexAddr_arr (p := [0]) Tryz.underlying28 (by kernel_rfl) arrI_len arrI_size ((ho _).trans rpt_at0) (arrI_get hk) (by rw [fits3]; simp [AV.isAgg, AV.size]) hK
theorem idx4 {x : Rpt} {k j : Nat} {s : AST} {q : IntKind} {KV : AV → Prop} (ho : ∀ p, cellAt s j p = (AV.agg (rptPs x)).at p) (hk : k < 8) (hK : KV (.ptr (some (j, [4, k])))) : indexAddrW Tryz.prog s 29 (.ptr (some (j, [4]))) (.int q (k : Nat)) KV :=
  indexAddr_arr (p := [4]) Tryz.underlying29 (by kernel_rfl) arrI_len arrI_size ((ho _).trans rpt_at4) (arrI_get hk) (by rw [fits3]; simp [AV.isAgg, AV.size]) hK
theorem mm_max {k : IntKind} {a b : Int} {KV : AV → Prop} : mmW true [.int k a, .int k b] KV = KV (.int k (max a b)) := by simp [mmW]
attribute [local go_sem] mm_max
theorem read1_c {σ0 s : AST} {j : Nat} {x : Rpt} {p : Post} {i : Nat} {t u : Tk} {K : AV → AST → Prop} (hx : Ext σ0 s) (hj : σ0.objs.length ≤ j) (o : s.objs[j]? = some (.cells (rptV x))) (hb : ∀ q, 0 ≤ x.kinds q ∧ x.kinds q ≤ 1000000)
    (hK : ∀ s', Ext σ0 s' → s'.objs[j]? = some (.cells (rptV (rptStep x p))) → K (.tuple []) s') :
    TCalls Tryz.prog 18 [.int .i64 i, msgV t u (getR p.b).1, .bool ((getR p.b).2 == 0), .ptr (some (j, []))] s K := by
  have hl := cell_len o
  have hO : ∀ l, (s.app l).objs[j]? = some (.cells (rptV x)) := fun l => objs_known_app o l
  have hC := fun l => cellAt_known (hO l)
  have hS : ∀ l o', (s.app l).set j o' = (s.set j o').app l := fun l o' => set_app' hl
  have hO2 : ∀ o' l, ((s.set j o').app l).objs[j]? = some o' := fun o' l => objs_known_app (objs_setS' hl) l
  have hC2 : ∀ v l p, cellAt ((s.set j (.cells v)).app l) j p = v.at p := fun v l => cellAt_known (hO2 _ l)
  have hB2 : ∀ o' l p, cellAt ((s.set j o').app l) s.objs.length p = (l[0]?).bind fun o => objCell o p := fun o' l p => by
    have := cellAt_app0 (σ := s.set j o') (l := l) (p := p)
    rwa [length_set] at this
  have hS2 : ∀ o' o'' l, ((s.set j o').app l).set j o'' = (s.set j o'').app l := fun o' o'' l => by rw [set_app' (by rw [length_set]; exact hl), set_set']
  have fin : ∀ y l, y = rptStep x p → K (.tuple []) ((s.set j (.cells (rptV y))).app l) := fun y l e => by
    subst e
    exact hK _ ((hx.set hj).trans (Ext.app _ _)) (hO2 _ l)
  clear hK
  by_cases he : (getR p.b).2 = 0
  · have hm := getR_ok he
    obtain ⟨k, hk⟩ : ∃ k : Nat, (getR p.b).1.kind = k := ⟨(getR p.b).1.kind.toNat, by have := hm.kind_in; omega⟩
    have hk12 : k < 12 := by have := hm.kind_in; omega
    obtain ⟨c, hc⟩ : ∃ c : Nat, (getR p.b).1.client = c := ⟨(getR p.b).1.client.toNat, by have := hm.2.1; simp only [In] at this; omega⟩
    have hc8 : c < 8 := by have := hm.2.1; simp only [In] at this; omega
    have hbk := hb k
    have hw : IntKind.i64.wrap (x.kinds k + 1) = x.kinds k + 1 := wrap_i64 (by omega) (by omega)
    have r0 := fun x => rat0 (x := x) hk12
    have s0 := fun x y => rset0 (x := x) (y := y) hk12
    have r4 := fun x => rat4 (x := x) hc8
    have s4 := fun x y => rset4 (x := x) (y := y) hc8
    by_cases h1 : k = 1
    · subst h1
      have hk' : (getR p.b).1.kind = 1 := hk
      have hst := rstep_sub (x := x) he hk' hc
      rw [hst] at fin
      clear hst
      generalize getR p.b = r at *
      refine tcalls_walk Tryz.f18 _ [] Tryz.func18 rfl rfl rfl mixed (Nat.le_of_ble_eq_true rfl) rfl fun hlen => ?_
      repeat' (first | (simp -dsimp only [↓reduceIte, go_sem, he, hC, hC2, hB2, hO, hO2, hS, hS2, hk', hc, r0, s0, rok0, r4, s4, rok4, hw]) | (refine arr_intro fun _ => ?_) | (refine later_intro ⟨keeps_nil, ?_⟩) | (refine later_intro ⟨keeps_refl, ?_⟩) | (with_reducible refine keeps_go ?_ ?_; focus (first | (simp [keeps_cons, keeps_none, objs_app, objs_app0]; done) | (simp only [keeps_cons, keeps_none, objs_app0, objs_app, and_true]; first | rfl | exact ⟨rfl, rfl⟩ | exact ⟨rfl, rfl, rfl⟩))) | (with_reducible refine (And.intro (a := keeps _ _ _) ?_ ?_); focus (first | (simp [keeps_cons, keeps_none, objs_app, objs_app0]; done) | (simp only [keeps_cons, keeps_none, objs_app0, objs_app, and_true]; first | rfl | exact ⟨rfl, rfl⟩ | exact ⟨rfl, rfl, rfl⟩))) | (refine both_ways ?_ ?_) | (rw [wrap_i64 (by omega) (by omega)]) | (refine guardV_split (fun h => ?_) (fun h => ?_) <;> (try rw [h]) <;> (try simp at h) <;> (try (exfalso; omega))) | (with_reducible refine awp_drawT (id := 5) (.op 0 2 (.op 1 2 (.op 2 2 (.op 3 2 (.op 4 2 (.op 5 2 (.op 6 2 (.op 7 2 (.op 8 2 (.op 9 2 (.op 10 2 (.op 11 2 (.op 12 2 (.op 13 1 .nil)))))))))))))) (by kernel_rfl) ?_) | (refine idx0 (k := 1) (hC _) hk12 ?_) | (refine idx4 (hC _) hc8 ?_) | (refine idx0 (k := 1) (hC2 _ _) hk12 ?_) | (refine idx4 (hC2 _ _) hc8 ?_))
      exact fin _ _ rfl
    · have h1' : ((k : Int) == 1) = false := by simp; omega
      have hst := rstep_other (x := x) he hk h1
      rw [hst] at fin
      clear hst
      generalize getR p.b = r at *
      refine tcalls_walk Tryz.f18 _ [] Tryz.func18 rfl rfl rfl mixed (Nat.le_of_ble_eq_true rfl) rfl fun hlen => ?_
      repeat' (first | (simp -dsimp only [↓reduceIte, go_sem, he, hC, hC2, hB2, hO, hO2, hS, hS2, hk, hc, r0, s0, rok0, r4, s4, rok4, hw, h1']) | (refine arr_intro fun _ => ?_) | (refine later_intro ⟨keeps_nil, ?_⟩) | (refine later_intro ⟨keeps_refl, ?_⟩) | (with_reducible refine keeps_go ?_ ?_; focus (first | (simp [keeps_cons, keeps_none, objs_app, objs_app0]; done) | (simp only [keeps_cons, keeps_none, objs_app0, objs_app, and_true]; first | rfl | exact ⟨rfl, rfl⟩ | exact ⟨rfl, rfl, rfl⟩))) | (with_reducible refine (And.intro (a := keeps _ _ _) ?_ ?_); focus (first | (simp [keeps_cons, keeps_none, objs_app, objs_app0]; done) | (simp only [keeps_cons, keeps_none, objs_app0, objs_app, and_true]; first | rfl | exact ⟨rfl, rfl⟩ | exact ⟨rfl, rfl, rfl⟩))) | (refine both_ways ?_ ?_) | (rw [wrap_i64 (by omega) (by omega)]) | (refine guardV_split (fun h => ?_) (fun h => ?_) <;> (try rw [h]) <;> (try simp at h) <;> (try (exfalso; omega))) | (with_reducible refine awp_drawT (id := 5) (.op 0 2 (.op 1 2 (.op 2 2 (.op 3 2 (.op 4 2 (.op 5 2 (.op 6 2 (.op 7 2 (.op 8 2 (.op 9 2 (.op 10 2 (.op 11 2 (.op 12 2 (.op 13 1 .nil)))))))))))))) (by kernel_rfl) ?_) | (refine idx0 (hC _) hk12 ?_) | (refine idx4 (hC _) hc8 ?_) | (refine idx0 (hC2 _ _) hk12 ?_) | (refine idx4 (hC2 _ _) hc8 ?_))
      exact fin _ _ rfl
  · have hbk := hb 0
    have hw : IntKind.i64.wrap (x.kinds 0 + 1) = x.kinds 0 + 1 := wrap_i64 (by omega) (by omega)
    have r0 := fun x => rat0 (x := x) (k := 0) (by decide)
    have s0 := fun x y => rset0 (x := x) (y := y) (k := 0) (by decide)
    have hst := rstep_none (x := x) he
    rw [hst] at fin
    clear hst
    generalize getR p.b = r at *
    refine tcalls_walk Tryz.f18 _ [] Tryz.func18 rfl rfl rfl mixed (Nat.le_of_ble_eq_true rfl) rfl fun hlen => ?_
    repeat' (first | (simp -dsimp only [↓reduceIte, go_sem, he, hC, hC2, hB2, hO, hO2, hS, hS2, r0, s0, rok0, hw]) | (refine arr_intro fun _ => ?_) | (refine later_intro ⟨keeps_nil, ?_⟩) | (refine later_intro ⟨keeps_refl, ?_⟩) | (with_reducible refine keeps_go ?_ ?_; focus (first | (simp [keeps_cons, keeps_none, objs_app, objs_app0]; done) | (simp only [keeps_cons, keeps_none, objs_app0, objs_app, and_true]; first | rfl | exact ⟨rfl, rfl⟩ | exact ⟨rfl, rfl, rfl⟩))) | (with_reducible refine (And.intro (a := keeps _ _ _) ?_ ?_); focus (first | (simp [keeps_cons, keeps_none, objs_app, objs_app0]; done) | (simp only [keeps_cons, keeps_none, objs_app0, objs_app, and_true]; first | rfl | exact ⟨rfl, rfl⟩ | exact ⟨rfl, rfl, rfl⟩))) | (refine both_ways ?_ ?_) | (rw [wrap_i64 (by omega) (by omega)]) | (refine guardV_split (fun h => ?_) (fun h => ?_) <;> (try rw [h]) <;> (try simp at h) <;> (try (exfalso; omega))) | (with_reducible refine awp_drawT (id := 5) (.op 0 2 (.op 1 2 (.op 2 2 (.op 3 2 (.op 4 2 (.op 5 2 (.op 6 2 (.op 7 2 (.op 8 2 (.op 9 2 (.op 10 2 (.op 11 2 (.op 12 2 (.op 13 1 .nil)))))))))))))) (by kernel_rfl) ?_) | (refine idx0 (k := 0) (hC _) (by decide) ?_))
    exact fin _ _ rfl
end Go.Aff.L10

