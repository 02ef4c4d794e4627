import Derived.Test.YtipnjeciaagabaaG34

set_option linter.unusedSimpArgs false
set_option linter.unusedVariables false

/- Layer 27, walked: OfflineOrder. -/
-- cuts
namespace Go.Aff.L10
open Go.Proofs Go.Aff Go.Aff.L01 Classical
set_option linter.unusedVariables false
set_option linter.unusedSimpArgs false
set_option maxRecDepth 20000
attribute [local go_sem] push_app app_app length_app cellAt_app cellAt_app0 set_app set_app0 objs_app objs_app0 List.cons_append List.nil_append List.length_cons List.length_nil List.getElem?_cons_zero List.getElem?_cons_succ List.set_cons_zero List.set_cons_succ List.length_map
attribute [-go_sem] cellAt_new
attribute [-simp] List.length_flatMap
attribute [local go_sem] Try.underlying3 Try.underlying4 Try.underlying5 Try.underlying9 Try.underlying29 Try.underlying30 Try.underlying33 Try.underlying38 Try.underlying24 Try.underlying89 subPs_0 subAt_0 subSet_0 subPs_1 subAt_1 subSet_1 subPs_2 subAt_2 subSet_2 subPs_3 subAt_3 subSet_3 subPs_4 subAt_4 subSet_4 subPs_5 subAt_5 subSet_5 sizes_sub shapes_sub fits_sub zero_sub zt_sub built_sub Try.underlying32 pendPs_0 pendAt_0 pendSet_0 pendPs_1 pendAt_1 pendSet_1 pendPs_2 pendAt_2 pendSet_2 pendPs_3 pendAt_3 pendSet_3 pendPs_4 pendAt_4 pendSet_4 pendPs_5 pendAt_5 pendSet_5 sizes_pend shapes_pend fits_pend zero_pend zt_pend built_pend Try.underlying98 repPs_0 repAt_0 repSet_0 repPs_1 repAt_1 repSet_1 repPs_2 repAt_2 repSet_2 repPs_3 repAt_3 repSet_3 repPs_4 repAt_4 repSet_4 repPs_5 repAt_5 repSet_5 repPs_6 repAt_6 repSet_6 repPs_7 repAt_7 repSet_7 repPs_8 repAt_8 repSet_8 repPs_9 repAt_9 repSet_9 sizes_rep shapes_rep fits_rep zero_rep zt_rep built_rep Try.underlying35 blobPs_0 blobAt_0 blobSet_0 blobPs_1 blobAt_1 blobSet_1 blobPs_2 blobAt_2 blobSet_2 blobPs_3 blobAt_3 blobSet_3 sizes_blob shapes_blob fits_blob zero_blob zt_blob built_blob Try.underlying37 msgPs_0 msgAt_0 msgSet_0 msgPs_1 msgAt_1 msgSet_1 msgPs_2 msgAt_2 msgSet_2 msgPs_3 msgAt_3 msgSet_3 msgPs_4 msgAt_4 msgSet_4 msgPs_5 msgAt_5 msgSet_5 msgPs_6 msgAt_6 msgSet_6 msgPs_7 msgAt_7 msgSet_7 msgPs_8 msgAt_8 msgSet_8 msgPs_9 msgAt_9 msgSet_9 sizes_msg shapes_msg fits_msg zero_msg zt_msg built_msg Try.underlying40 at_Ps_0 at_Set_0 at_Ps_1 at_Set_1 sizes_at_ shapes_at_
attribute [local go_sem] fits3 fits4 fits5 fits9 fits23 fits26 fits31 fits34 fits52 zt3 zero3 zt34 zero34 zt23 zero23 bin_sub_eql bin_pend_eql bin_pend_neq bin_blob_eql bin_dig23_eql bin_dig23_neq slice23
attribute [local go_sem ↓] blockQ_exit2
attribute [local simp] dig_ext
attribute [local go_sem] sndPs_0 sndAt_0 sndSet_0 sndPs_1 sndAt_1 sndSet_1 sizes_snd shapes_snd fits_snd zero_snd zt_snd built_snd Try.underlying42 askPs_0 askAt_0 askSet_0 askPs_1 askAt_1 askSet_1 askPs_2 askAt_2 askSet_2 askPs_3 askAt_3 askSet_3 askPs_4 askAt_4 askSet_4 sizes_ask shapes_ask fits_ask zero_ask zt_ask built_ask Try.underlying44 let_Ps_0 let_At_0 let_Set_0 let_Ps_1 let_At_1 let_Set_1 sizes_let_ shapes_let_ fits_let_ zero_let_ zt_let_ built_let_ Try.underlying74 netPs_0 netAt_0 netSet_0 netPs_1 netAt_1 netSet_1 sizes_net shapes_net fits_net zero_net zt_net built_net Try.underlying71 rletPs_0 rletAt_0 rletSet_0 rletPs_1 rletAt_1 rletSet_1 sizes_rlet shapes_rlet fits_rlet zero_rlet zt_rlet built_rlet Try.underlying60 rnetPs_0 rnetAt_0 rnetSet_0 rnetPs_1 rnetAt_1 rnetSet_1 sizes_rnet shapes_rnet fits_rnet zero_rnet zt_rnet built_rnet Try.underlying56 Try.underlying69 Try.underlying54 Try.underlying23 Try.underlying53
attribute [local go_sem] fits69 fits54'
attribute [local go_sem] Try.underlying22 Try.underlying28
theorem E28 : ElemT Try.prog 28 9 1 16 := ⟨rfl, by kernel_rfl, by kernel_rfl, ⟨.str [], _, _, rfl, rfl, rfl, rfl, rfl⟩, by decide⟩
theorem retok {σ0 s : AST} (h : Ext σ0 s) : Ext ⟨σ0.objs, s.toks⟩ s := by obtain ⟨O, T, rfl⟩ := h; exact ⟨O, [], by simp⟩
theorem untok {σ0 s s' : AST} (h : Ext σ0 s) (h' : Ext ⟨σ0.objs, s.toks⟩ s') : Ext σ0 s' := by
  obtain ⟨O, T, rfl⟩ := h; obtain ⟨O', T', rfl⟩ := h'; exact ⟨O', T ++ T', by simp⟩
theorem canApp_keep {o : List AObj} {s s' : AST} {tk : Tk} {n e : Nat} (h : Ext ⟨o, s.toks⟩ s') (hc : canApp s tk n e) : canApp s' tk n e := by
  obtain ⟨O, T, rfl⟩ := h
  cases tk with
  | full => trivial
  | own k => simp only [canApp] at hc ⊢; rw [List.getElem?_append_left (List.getElem?_eq_some_iff.1 hc).1]; exact hc
  | none => exact hc.elim
  | lit => exact hc.elim
section
variable {σ0 s s2 : AST} {j : Nat} {c : Int} {l l' : List Let} {F : List (Nat × AObj)}
theorem NF.retok (h : NF σ0 s j c l F) : NF ⟨σ0.objs, s.toks⟩ s j c l F := ⟨Go.Aff.L10.retok h.x, h.jn, h.o, h.f⟩
theorem NF.untok (h0 : NF σ0 s j c l F) (h : NF ⟨σ0.objs, s.toks⟩ s2 j c l' F) : NF σ0 s2 j c l' F := ⟨Go.Aff.L10.untok h0.x h.x, h0.jn, h.o, h.f⟩
theorem NF.box (h : NF σ0 s j c l F) (o : AObj) : NF σ0 (s.app [o]) j c l ((s.objs.length, o) :: F) := by
  obtain ⟨t, oj⟩ := h.o
  have h1 := (List.getElem?_eq_some_iff.1 oj).1
  have h2 := h.ext (Ext.app s [o])
  refine ⟨h2.x, h2.jn, h2.o, fun x hx => ?_⟩
  rcases List.mem_cons.1 hx with rfl | hx
  · exact ⟨by simp only; omega, objs_app0⟩
  · exact h2.f x hx
theorem NF.less {y : Nat × AObj} (h : NF σ0 s j c l (y :: F)) : NF σ0 s j c l F := ⟨h.x, h.jn, h.o, fun x hx => h.f x (List.mem_cons_of_mem _ hx)⟩
theorem NF.grow {tk : Tk} {n e : Nat} (h : NF σ0 s j c l F) (ht : tkNew σ0 tk) : NF σ0 (growS s tk n e) j c l F := by
  obtain ⟨t, o⟩ := h.o
  exact ⟨h.x.grow ht, h.jn, ⟨t, by rw [growS_objs]; exact o⟩, fun x hx => ⟨(h.f x hx).1, by rw [growS_objs]; exact (h.f x hx).2⟩⟩
end
def hers (c : Int) (l : List Let) : List (List UInt8) := (l.filter fun x => x.to == c).map fun x => x.b
theorem hers_add {c : Int} {l : List Let} {x : Let} : hers c (l ++ [x]) = hers c l ++ (if x.to = c then [x.b] else []) := by
  unfold hers
  by_cases h : x.to = c <;> simp [List.filter_append, h]
theorem hers_first {c : Int} {l : List Let} {i : Nat} {x : Let} (h : ∀ (j : Nat) y, j < i → l[j]? = some y → y.to ≠ c) (hx : l[i]? = some x) (hto : x.to = c) : hers c l = x.b :: hers c (l.take i ++ l.drop (i + 1)) := by
  have hi := (List.getElem?_eq_some_iff.1 hx).1
  have hx' := (List.getElem?_eq_some_iff.1 hx).2
  have hl : l = l.take i ++ x :: l.drop (i + 1) := by
    conv => lhs; rw [← List.take_append_drop i l, List.drop_eq_getElem_cons hi, hx']
  have h0 : (l.take i).filter (fun x => x.to == c) = [] := by
    rw [List.filter_eq_nil_iff]
    intro y hy
    obtain ⟨j, hj⟩ := List.mem_iff_getElem?.1 hy
    rw [List.getElem?_take] at hj
    split at hj
    · have := h j y (by assumption) hj; simpa using this
    · cases hj
  unfold hers
  conv => lhs; rw [hl]
  simp [List.filter_append, h0, hto]
theorem hers_none {c : Int} {l : List Let} (h : ∀ y ∈ l, y.to ≠ c) : hers c l = [] := by
  unfold hers
  rw [List.map_eq_nil_iff, List.filter_eq_nil_iff]
  intro y hy; have := h y hy; simpa using this
theorem hers_len {c : Int} {l : List Let} : (hers c l).length ≤ l.length := by unfold hers; rw [List.length_map]; exact List.length_filter_le ..
theorem forge_two (c : Int) (l : List Let) (to : Int) (b : List UInt8) : (forgeE c l to b = 0 ∧ forgeL c l to b = l ++ [⟨to, b⟩]) ∨ (forgeE c l to b ≠ 0 ∧ forgeL c l to b = l) := by
  unfold forgeE forgeL addE addL; split
  · right; simp
  · split <;> simp
theorem send_two (c : Int) (l : List Let) (to : Int) (m : Msg) : (sendE c l to m = 0 ∧ m.Ok ∧ sendL c l to m = l ++ [⟨to, m.bytes⟩]) ∨ (sendE c l to m ≠ 0 ∧ sendL c l to m = l) := by
  unfold sendE sendL addE addL; split
  · right; simp
  · rename_i h
    have hok : m.Ok := Classical.byContradiction fun hn => h (.inl hn)
    split <;> simp [hok]
theorem size_strs {l : List (List UInt8)} : ∀ v ∈ l.map AV.str, v.size = 1 := by
  intro v hv; obtain ⟨x, _, rfl⟩ := List.mem_map.1 hv; rfl
theorem append_str {a : List (List UInt8)} {x : List UInt8} {tk tk2 : Tk} {σ : AST} {K : AV → AST → Prop} (hca : canApp σ tk a.length 1) (hl : a.length ≤ 1999) (hK : K (.slice (growT σ tk) ((a ++ [x]).map .str)) (growS σ tk (a.length + 1) 1)) :
    appendW Try.prog ⟨[28, 28]⟩ (.slice tk (a.map .str)) (.slice tk2 [.str x]) σ K := by
  refine append_slice E28 rfl (by rw [List.length_map]; exact hca) (by intro v hv; simp at hv; subst hv; rfl) size_strs (by simp; omega) (by simp [maxL]; omega) ?_
  simpa using hK
theorem offlineOrder_c {m : Int} (hm0 : 0 ≤ m) (hm1 : m ≤ 255) {la : List AV} {ta : Tk} (ha : ∀ v ∈ la, IsAsk v) {σ : AST} {K : AV → AST → Prop} (hK : ∀ s, Ext σ s → K (.bool true) s) : TCalls Try.prog 3 [.slice ta la, .int .u8 m] σ K := by
  refine tcalls_walk Try.f3 _ [.tmp 4] Try.func3 rfl rfl rfl mixed (Nat.le_of_ble_eq_true rfl) rfl fun hlen => ?_
  simp -dsimp only [↓reduceIte, go_sem]
  refine new_c (fun hbad => by omega) (fun hgood s0 hN0 => ?_)
  generalize hj : σ.objs.length = j at hN0 ⊢
  have hc0 : 0 ≤ m.tmod 4 := Int.tmod_nonneg _ hm0
  have hc1 : m.tmod 4 < 4 := Int.tmod_lt_of_pos _ (by decide)
  generalize hc : m.tmod 4 = c at hc0 hc1
  repeat' (first | (simp -dsimp only [↓reduceIte, go_sem, hc]) | (refine arr_intro fun _ => ?_) | (refine later_intro ⟨keeps_nil, ?_⟩) | (refine later_intro ⟨keeps_refl, ?_⟩) | (with_reducible refine keeps_go ?_ ?_; focus (first | (simp [keeps_cons, keeps_none, objs_app, objs_app0]; done) | (simp only [keeps_cons, keeps_none, objs_app0, objs_app, and_true]; first | rfl | exact ⟨rfl, rfl⟩ | exact ⟨rfl, rfl, rfl⟩))) | (with_reducible refine (And.intro (a := keeps _ _ _) ?_ ?_); focus (first | (simp [keeps_cons, keeps_none, objs_app, objs_app0]; done) | (simp only [keeps_cons, keeps_none, objs_app0, objs_app, and_true]; first | rfl | exact ⟨rfl, rfl⟩ | exact ⟨rfl, rfl, rfl⟩))) | (refine both_ways ?_ ?_) | (rw [wrap_i64 (by omega) (by omega)]) | (refine guardV_split (fun h => ?_) (fun h => ?_) <;> (try rw [h]) <;> (try simp at h) <;> (try (exfalso; omega))) | (refine awake_d ?_))
  refine awp_rounds (fun (i : Nat) τ s' => ∃ l tk, l.length ≤ 128 ∧ NF σ s' j 4 l [] ∧ tkNew σ tk ∧ canApp s' tk (hers c l).length 1 ∧ i ≤ la.length ∧ τ 0 = .slice ta la ∧ τ 5 = .ptr (some (j, [])) ∧ τ 7 = .int .i64 c ∧ τ 8 = .slice tk ((hers c l).map .str) ∧ τ 9 = .int .i64 i) (fun i => la.length - i) 0 ?_ ?_
  · refine ⟨[], .full, by simp, hN0, .inl rfl, trivial, by omega, ?_, ?_, ?_, ?_, ?_⟩ <;> (try simp only [go_sem, hc]) <;> (try rfl)
  · rintro i τ s ⟨l, tk, hl, hN, hnew, hcan, hi, t0, t5, t7, t8, t9⟩
    have hlen := hers_len (c := c) (l := l)
    by_cases hn : i < la.length ∧ i < 60
    · have hn1 : (i : Int) < la.length := by omega
      have hn2 : (i : Int) < 60 := by omega
      obtain ⟨v, hv, hvm⟩ := get_of_lt hn.1
      obtain ⟨t, u, a, rfl, hw, _⟩ := ha v hvm
      have hB := hN.box (.cells (askV t u a))
      have hcB : canApp (s.app [.cells (askV t u a)]) tk (hers c l).length 1 := by rw [canApp_app]; exact hcan
      have cb := cellAt_known (hB.f _ (List.mem_cons_self ..)).2
      simp only at cb
      repeat' (first | (simp -dsimp only [↓reduceIte, go_sem, t0, t5, t7, t8, t9, hn1, hn2, cb]) | (refine arr_intro fun _ => ?_) | (refine later_intro ⟨keeps_nil, ?_⟩) | (refine later_intro ⟨keeps_refl, ?_⟩) | (with_reducible refine keeps_go ?_ ?_; focus (first | (simp [keeps_cons, keeps_none, objs_app, objs_app0]; done) | (simp only [keeps_cons, keeps_none, objs_app0, objs_app, and_true]; first | rfl | exact ⟨rfl, rfl⟩ | exact ⟨rfl, rfl, rfl⟩))) | (with_reducible refine (And.intro (a := keeps _ _ _) ?_ ?_); focus (first | (simp [keeps_cons, keeps_none, objs_app, objs_app0]; done) | (simp only [keeps_cons, keeps_none, objs_app0, objs_app, and_true]; first | rfl | exact ⟨rfl, rfl⟩ | exact ⟨rfl, rfl, rfl⟩))) | (refine both_ways ?_ ?_) | (rw [wrap_i64 (by omega) (by omega)]) | (refine guardV_split (fun h => ?_) (fun h => ?_) <;> (try rw [h]) <;> (try simp at h) <;> (try (exfalso; omega))) | (refine nth_get hv ?_))
      refine light_c fun b => ?_
      cases b
      · repeat' (first | (simp -dsimp only [↓reduceIte, go_sem, t0, t5, t7, t8, t9]) | (refine arr_intro fun _ => ?_) | (refine later_intro ⟨keeps_nil, ?_⟩) | (refine later_intro ⟨keeps_refl, ?_⟩) | (with_reducible refine keeps_go ?_ ?_; focus (first | (simp [keeps_cons, keeps_none, objs_app, objs_app0]; done) | (simp only [keeps_cons, keeps_none, objs_app0, objs_app, and_true]; first | rfl | exact ⟨rfl, rfl⟩ | exact ⟨rfl, rfl, rfl⟩))) | (with_reducible refine (And.intro (a := keeps _ _ _) ?_ ?_); focus (first | (simp [keeps_cons, keeps_none, objs_app, objs_app0]; done) | (simp only [keeps_cons, keeps_none, objs_app0, objs_app, and_true]; first | rfl | exact ⟨rfl, rfl⟩ | exact ⟨rfl, rfl, rfl⟩))) | (refine both_ways ?_ ?_) | (rw [wrap_i64 (by omega) (by omega)]) | (refine guardV_split (fun h => ?_) (fun h => ?_) <;> (try rw [h]) <;> (try simp at h) <;> (try (exfalso; omega))))
        refine later_intro ⟨i + 1, by omega, l, tk, hl, hB.less, hnew, hcB, by omega, ?_, ?_, ?_, ?_, ?_⟩ <;> (try simp only [go_sem, t0, t5, t7, t8, t9]) <;> (try rfl)
      · by_cases hk : a.kind.tmod 2 = 0
        · repeat' (first | (simp -dsimp only [↓reduceIte, go_sem, t0, t5, t7, t8, t9, cb, hk]) | (refine arr_intro fun _ => ?_) | (refine later_intro ⟨keeps_nil, ?_⟩) | (refine later_intro ⟨keeps_refl, ?_⟩) | (with_reducible refine keeps_go ?_ ?_; focus (first | (simp [keeps_cons, keeps_none, objs_app, objs_app0]; done) | (simp only [keeps_cons, keeps_none, objs_app0, objs_app, and_true]; first | rfl | exact ⟨rfl, rfl⟩ | exact ⟨rfl, rfl, rfl⟩))) | (with_reducible refine (And.intro (a := keeps _ _ _) ?_ ?_); focus (first | (simp [keeps_cons, keeps_none, objs_app, objs_app0]; done) | (simp only [keeps_cons, keeps_none, objs_app0, objs_app, and_true]; first | rfl | exact ⟨rfl, rfl⟩ | exact ⟨rfl, rfl, rfl⟩))) | (refine both_ways ?_ ?_) | (rw [wrap_i64 (by omega) (by omega)]) | (refine guardV_split (fun h => ?_) (fun h => ?_) <;> (try rw [h]) <;> (try simp at h) <;> (try (exfalso; omega))))
          refine forge_c hB.retok fun s1 hN1 => ?_
          have hN2 := hB.untok hN1
          have hc2 := canApp_keep hN1.x hcB
          have cb := cellAt_known (hN2.f _ (List.mem_cons_self ..)).2
          simp only at cb
          rcases forge_two 4 l a.to a.b with ⟨hE, hL⟩ | ⟨hE, hL⟩
          · have hl2 : (l ++ [(⟨a.to, a.b⟩ : Let)]).length ≤ 128 := by rw [← hL]; exact forgeL_len hl
            rw [hL] at hN2
            have hh := hers_add (c := c) (l := l) (x := ⟨a.to, a.b⟩)
            rw [hE]
            by_cases hto : a.to = c
            · rw [if_pos hto] at hh
              repeat' (first | (simp -dsimp only [↓reduceIte, go_sem, t0, t5, t7, t8, t9, cb, hto]) | (refine arr_intro fun _ => ?_) | (refine later_intro ⟨keeps_nil, ?_⟩) | (refine later_intro ⟨keeps_refl, ?_⟩) | (with_reducible refine keeps_go ?_ ?_; focus (first | (simp [keeps_cons, keeps_none, objs_app, objs_app0]; done) | (simp only [keeps_cons, keeps_none, objs_app0, objs_app, and_true]; first | rfl | exact ⟨rfl, rfl⟩ | exact ⟨rfl, rfl, rfl⟩))) | (with_reducible refine (And.intro (a := keeps _ _ _) ?_ ?_); focus (first | (simp [keeps_cons, keeps_none, objs_app, objs_app0]; done) | (simp only [keeps_cons, keeps_none, objs_app0, objs_app, and_true]; first | rfl | exact ⟨rfl, rfl⟩ | exact ⟨rfl, rfl, rfl⟩))) | (refine both_ways ?_ ?_) | (rw [wrap_i64 (by omega) (by omega)]) | (refine guardV_split (fun h => ?_) (fun h => ?_) <;> (try rw [h]) <;> (try simp at h) <;> (try (exfalso; omega))) | (refine build_slice E28 rfl (by decide) (by intro v hv; simp at hv; subst hv; simp [go_sem]) ?_) | (refine append_str hc2 (by omega) ?_))
              refine later_intro ⟨i + 1, by omega, _, _, hl2, hN2.less.grow hnew, hnew.grow hN2.x, by rw [hh, List.length_append]; exact canApp_grow hc2, by omega, ?_, ?_, ?_, ?_, ?_⟩ <;> (try simp only [go_sem, t0, t5, t7, t8, t9, hh]) <;> (try rfl)
            · rw [if_neg hto, List.append_nil] at hh
              repeat' (first | (simp -dsimp only [↓reduceIte, go_sem, t0, t5, t7, t8, t9, cb, hto]) | (refine arr_intro fun _ => ?_) | (refine later_intro ⟨keeps_nil, ?_⟩) | (refine later_intro ⟨keeps_refl, ?_⟩) | (with_reducible refine keeps_go ?_ ?_; focus (first | (simp [keeps_cons, keeps_none, objs_app, objs_app0]; done) | (simp only [keeps_cons, keeps_none, objs_app0, objs_app, and_true]; first | rfl | exact ⟨rfl, rfl⟩ | exact ⟨rfl, rfl, rfl⟩))) | (with_reducible refine (And.intro (a := keeps _ _ _) ?_ ?_); focus (first | (simp [keeps_cons, keeps_none, objs_app, objs_app0]; done) | (simp only [keeps_cons, keeps_none, objs_app0, objs_app, and_true]; first | rfl | exact ⟨rfl, rfl⟩ | exact ⟨rfl, rfl, rfl⟩))) | (refine both_ways ?_ ?_) | (rw [wrap_i64 (by omega) (by omega)]) | (refine guardV_split (fun h => ?_) (fun h => ?_) <;> (try rw [h]) <;> (try simp at h) <;> (try (exfalso; omega))))
              refine later_intro ⟨i + 1, by omega, _, tk, hl2, hN2.less, hnew, by rw [hh]; exact hc2, by omega, ?_, ?_, ?_, ?_, ?_⟩ <;> (try simp only [go_sem, t0, t5, t7, t8, t9, hh]) <;> (try rfl)
          · rw [hL] at hN2
            repeat' (first | (simp -dsimp only [↓reduceIte, go_sem, t0, t5, t7, t8, t9, cb, hE]) | (refine arr_intro fun _ => ?_) | (refine later_intro ⟨keeps_nil, ?_⟩) | (refine later_intro ⟨keeps_refl, ?_⟩) | (with_reducible refine keeps_go ?_ ?_; focus (first | (simp [keeps_cons, keeps_none, objs_app, objs_app0]; done) | (simp only [keeps_cons, keeps_none, objs_app0, objs_app, and_true]; first | rfl | exact ⟨rfl, rfl⟩ | exact ⟨rfl, rfl, rfl⟩))) | (with_reducible refine (And.intro (a := keeps _ _ _) ?_ ?_); focus (first | (simp [keeps_cons, keeps_none, objs_app, objs_app0]; done) | (simp only [keeps_cons, keeps_none, objs_app0, objs_app, and_true]; first | rfl | exact ⟨rfl, rfl⟩ | exact ⟨rfl, rfl, rfl⟩))) | (refine both_ways ?_ ?_) | (rw [wrap_i64 (by omega) (by omega)]) | (refine guardV_split (fun h => ?_) (fun h => ?_) <;> (try rw [h]) <;> (try simp at h) <;> (try (exfalso; omega))))
            refine later_intro ⟨i + 1, by omega, _, tk, hl, hN2.less, hnew, hc2, by omega, ?_, ?_, ?_, ?_, ?_⟩ <;> (try simp only [go_sem, t0, t5, t7, t8, t9]) <;> (try rfl)
        · repeat' (first | (simp -dsimp only [↓reduceIte, go_sem, t0, t5, t7, t8, t9, cb, hk]) | (refine arr_intro fun _ => ?_) | (refine later_intro ⟨keeps_nil, ?_⟩) | (refine later_intro ⟨keeps_refl, ?_⟩) | (with_reducible refine keeps_go ?_ ?_; focus (first | (simp [keeps_cons, keeps_none, objs_app, objs_app0]; done) | (simp only [keeps_cons, keeps_none, objs_app0, objs_app, and_true]; first | rfl | exact ⟨rfl, rfl⟩ | exact ⟨rfl, rfl, rfl⟩))) | (with_reducible refine (And.intro (a := keeps _ _ _) ?_ ?_); focus (first | (simp [keeps_cons, keeps_none, objs_app, objs_app0]; done) | (simp only [keeps_cons, keeps_none, objs_app0, objs_app, and_true]; first | rfl | exact ⟨rfl, rfl⟩ | exact ⟨rfl, rfl, rfl⟩))) | (refine both_ways ?_ ?_) | (rw [wrap_i64 (by omega) (by omega)]) | (refine guardV_split (fun h => ?_) (fun h => ?_) <;> (try rw [h]) <;> (try simp at h) <;> (try (exfalso; omega))))
          refine send_c hB.retok fun s1 hN1 => ?_
          have hN2 := hB.untok hN1
          have hc2 := canApp_keep hN1.x hcB
          have cb := cellAt_known (hN2.f _ (List.mem_cons_self ..)).2
          simp only at cb
          rcases send_two 4 l a.x.to a.x.x with ⟨hE, hok, hL⟩ | ⟨hE, hL⟩
          · have hl2 : (l ++ [(⟨a.x.to, a.x.x.bytes⟩ : Let)]).length ≤ 128 := by rw [← hL]; exact sendL_len hl
            rw [hL] at hN2
            have hh := hers_add (c := c) (l := l) (x := ⟨a.x.to, a.x.x.bytes⟩)
            rw [hE]
            by_cases hto : a.x.to = c
            · rw [if_pos hto] at hh
              repeat' (first | (simp -dsimp only [↓reduceIte, go_sem, t0, t5, t7, t8, t9, cb, hto]) | (refine arr_intro fun _ => ?_) | (refine later_intro ⟨keeps_nil, ?_⟩) | (refine later_intro ⟨keeps_refl, ?_⟩) | (with_reducible refine keeps_go ?_ ?_; focus (first | (simp [keeps_cons, keeps_none, objs_app, objs_app0]; done) | (simp only [keeps_cons, keeps_none, objs_app0, objs_app, and_true]; first | rfl | exact ⟨rfl, rfl⟩ | exact ⟨rfl, rfl, rfl⟩))) | (with_reducible refine (And.intro (a := keeps _ _ _) ?_ ?_); focus (first | (simp [keeps_cons, keeps_none, objs_app, objs_app0]; done) | (simp only [keeps_cons, keeps_none, objs_app0, objs_app, and_true]; first | rfl | exact ⟨rfl, rfl⟩ | exact ⟨rfl, rfl, rfl⟩))) | (refine both_ways ?_ ?_) | (rw [wrap_i64 (by omega) (by omega)]) | (refine guardV_split (fun h => ?_) (fun h => ?_) <;> (try rw [h]) <;> (try simp at h) <;> (try (exfalso; omega))) | (refine lay_c hok ?_) | (refine build_slice E28 rfl (by decide) (by intro v hv; simp at hv; subst hv; simp [go_sem]) ?_) | (refine append_str hc2 (by omega) ?_))
              refine later_intro ⟨i + 1, by omega, _, _, hl2, hN2.less.grow hnew, hnew.grow hN2.x, by rw [hh, List.length_append]; exact canApp_grow hc2, by omega, ?_, ?_, ?_, ?_, ?_⟩ <;> (try simp only [go_sem, t0, t5, t7, t8, t9, hh]) <;> (try rfl)
            · rw [if_neg hto, List.append_nil] at hh
              repeat' (first | (simp -dsimp only [↓reduceIte, go_sem, t0, t5, t7, t8, t9, cb, hto]) | (refine arr_intro fun _ => ?_) | (refine later_intro ⟨keeps_nil, ?_⟩) | (refine later_intro ⟨keeps_refl, ?_⟩) | (with_reducible refine keeps_go ?_ ?_; focus (first | (simp [keeps_cons, keeps_none, objs_app, objs_app0]; done) | (simp only [keeps_cons, keeps_none, objs_app0, objs_app, and_true]; first | rfl | exact ⟨rfl, rfl⟩ | exact ⟨rfl, rfl, rfl⟩))) | (with_reducible refine (And.intro (a := keeps _ _ _) ?_ ?_); focus (first | (simp [keeps_cons, keeps_none, objs_app, objs_app0]; done) | (simp only [keeps_cons, keeps_none, objs_app0, objs_app, and_true]; first | rfl | exact ⟨rfl, rfl⟩ | exact ⟨rfl, rfl, rfl⟩))) | (refine both_ways ?_ ?_) | (rw [wrap_i64 (by omega) (by omega)]) | (refine guardV_split (fun h => ?_) (fun h => ?_) <;> (try rw [h]) <;> (try simp at h) <;> (try (exfalso; omega))))
              refine later_intro ⟨i + 1, by omega, _, tk, hl2, hN2.less, hnew, by rw [hh]; exact hc2, by omega, ?_, ?_, ?_, ?_, ?_⟩ <;> (try simp only [go_sem, t0, t5, t7, t8, t9, hh]) <;> (try rfl)
          · rw [hL] at hN2
            repeat' (first | (simp -dsimp only [↓reduceIte, go_sem, t0, t5, t7, t8, t9, cb, hE]) | (refine arr_intro fun _ => ?_) | (refine later_intro ⟨keeps_nil, ?_⟩) | (refine later_intro ⟨keeps_refl, ?_⟩) | (with_reducible refine keeps_go ?_ ?_; focus (first | (simp [keeps_cons, keeps_none, objs_app, objs_app0]; done) | (simp only [keeps_cons, keeps_none, objs_app0, objs_app, and_true]; first | rfl | exact ⟨rfl, rfl⟩ | exact ⟨rfl, rfl, rfl⟩))) | (with_reducible refine (And.intro (a := keeps _ _ _) ?_ ?_); focus (first | (simp [keeps_cons, keeps_none, objs_app, objs_app0]; done) | (simp only [keeps_cons, keeps_none, objs_app0, objs_app, and_true]; first | rfl | exact ⟨rfl, rfl⟩ | exact ⟨rfl, rfl, rfl⟩))) | (refine both_ways ?_ ?_) | (rw [wrap_i64 (by omega) (by omega)]) | (refine guardV_split (fun h => ?_) (fun h => ?_) <;> (try rw [h]) <;> (try simp at h) <;> (try (exfalso; omega))))
            refine later_intro ⟨i + 1, by omega, _, tk, hl, hN2.less, hnew, hc2, by omega, ?_, ?_, ?_, ?_, ?_⟩ <;> (try simp only [go_sem, t0, t5, t7, t8, t9]) <;> (try rfl)
    · have h2 : (¬ (i : Int) < la.length ∧ True) ∨ ((i : Int) < la.length ∧ ¬ (i : Int) < 60) := by
        by_cases h : (i : Int) < la.length
        · exact .inr ⟨h, by omega⟩
        · exact .inl ⟨h, trivial⟩
      rcases h2 with ⟨hn1, hn2⟩ | ⟨hn1, hn2⟩
      all_goals
        repeat' (first | (simp -dsimp only [↓reduceIte, go_sem, t0, t5, t7, t8, t9, hn1, hn2]) | (refine arr_intro fun _ => ?_) | (refine later_intro ⟨keeps_nil, ?_⟩) | (refine later_intro ⟨keeps_refl, ?_⟩) | (with_reducible refine keeps_go ?_ ?_; focus (first | (simp [keeps_cons, keeps_none, objs_app, objs_app0]; done) | (simp only [keeps_cons, keeps_none, objs_app0, objs_app, and_true]; first | rfl | exact ⟨rfl, rfl⟩ | exact ⟨rfl, rfl, rfl⟩))) | (with_reducible refine (And.intro (a := keeps _ _ _) ?_ ?_); focus (first | (simp [keeps_cons, keeps_none, objs_app, objs_app0]; done) | (simp only [keeps_cons, keeps_none, objs_app0, objs_app, and_true]; first | rfl | exact ⟨rfl, rfl⟩ | exact ⟨rfl, rfl, rfl⟩))) | (refine both_ways ?_ ?_) | (rw [wrap_i64 (by omega) (by omega)]) | (refine guardV_split (fun h => ?_) (fun h => ?_) <;> (try rw [h]) <;> (try simp at h) <;> (try (exfalso; omega))))
        refine awp_rounds (fun (n : Nat) τ s' => ∃ l2, NF σ s' j 4 l2 [] ∧ l2.length ≤ 128 ∧ hers c l2 = (hers c l).drop n ∧ n ≤ (hers c l).length ∧ τ 5 = .ptr (some (j, [])) ∧ τ 7 = .int .i64 c ∧ τ 8 = .slice tk ((hers c l).map .str) ∧ τ 11 = .int .i64 n) (fun n => (hers c l).length - n) 0 ?_ ?_
        · refine ⟨l, hN, hl, by simp, by omega, ?_, ?_, ?_, ?_⟩ <;> (try simp only [go_sem, t5, t7, t8]) <;> (try rfl)
        · rintro n τ s' ⟨l2, hN, hl2, hh, hn, t5, t7, t8, t11⟩
          by_cases hnl : n < (hers c l).length
          · have hnl1 : (n : Int) < (hers c l).length := by omega
            have hne : hers c l2 ≠ [] := by rw [hh]; intro h; have := congrArg List.length h; simp at this; omega
            repeat' (first | (simp -dsimp only [↓reduceIte, go_sem, t5, t7, t8, t11, hnl1]) | (refine arr_intro fun _ => ?_) | (refine later_intro ⟨keeps_nil, ?_⟩) | (refine later_intro ⟨keeps_refl, ?_⟩) | (with_reducible refine keeps_go ?_ ?_; focus (first | (simp [keeps_cons, keeps_none, objs_app, objs_app0]; done) | (simp only [keeps_cons, keeps_none, objs_app0, objs_app, and_true]; first | rfl | exact ⟨rfl, rfl⟩ | exact ⟨rfl, rfl, rfl⟩))) | (with_reducible refine (And.intro (a := keeps _ _ _) ?_ ?_); focus (first | (simp [keeps_cons, keeps_none, objs_app, objs_app0]; done) | (simp only [keeps_cons, keeps_none, objs_app0, objs_app, and_true]; first | rfl | exact ⟨rfl, rfl⟩ | exact ⟨rfl, rfl, rfl⟩))) | (refine both_ways ?_ ?_) | (rw [wrap_i64 (by omega) (by omega)]) | (refine guardV_split (fun h => ?_) (fun h => ?_) <;> (try rw [h]) <;> (try simp at h) <;> (try (exfalso; omega))))
            refine first_c hN (by omega) (fun s1 k x h1 hx hto hN1 => ?_) (fun h => absurd (hers_none h) hne)
            have hf := hers_first h1 hx hto
            rw [hf] at hh
            have hx0 : (hers c l)[n]? = some x.b := by
              have := congrArg (fun l => l[0]?) hh
              simpa [List.getElem?_drop] using this.symm
            have hd : hers c (l2.take k ++ l2.drop (k + 1)) = (hers c l).drop (n + 1) := by
              have := congrArg List.tail hh
              simpa [List.tail_drop] using this
            repeat' (first | (simp -dsimp only [↓reduceIte, go_sem, t5, t7, t8, t11]) | (refine arr_intro fun _ => ?_) | (refine later_intro ⟨keeps_nil, ?_⟩) | (refine later_intro ⟨keeps_refl, ?_⟩) | (with_reducible refine keeps_go ?_ ?_; focus (first | (simp [keeps_cons, keeps_none, objs_app, objs_app0]; done) | (simp only [keeps_cons, keeps_none, objs_app0, objs_app, and_true]; first | rfl | exact ⟨rfl, rfl⟩ | exact ⟨rfl, rfl, rfl⟩))) | (with_reducible refine (And.intro (a := keeps _ _ _) ?_ ?_); focus (first | (simp [keeps_cons, keeps_none, objs_app, objs_app0]; done) | (simp only [keeps_cons, keeps_none, objs_app0, objs_app, and_true]; first | rfl | exact ⟨rfl, rfl⟩ | exact ⟨rfl, rfl, rfl⟩))) | (refine both_ways ?_ ?_) | (rw [wrap_i64 (by omega) (by omega)]) | (refine guardV_split (fun h => ?_) (fun h => ?_) <;> (try rw [h]) <;> (try simp at h) <;> (try (exfalso; omega))) | (refine nth_get hx0 ?_))
            refine ⟨n + 1, by omega, _, hN1, out_len hl2, hd, by omega, ?_⟩
            rfl
          · have hnl1 : ¬ (n : Int) < (hers c l).length := by omega
            have hnil : hers c l2 = [] := by rw [hh]; simp; omega
            have hw0 : waits c l2 = 0 := by
              have : (hers c l2).length = waits c l2 := by unfold hers waits; rw [List.length_map, List.countP_eq_length_filter]
              rw [← this, hnil]; rfl
            repeat' (first | (simp -dsimp only [↓reduceIte, go_sem, t5, t7, t8, t11, hnl1]) | (refine arr_intro fun _ => ?_) | (refine later_intro ⟨keeps_nil, ?_⟩) | (refine later_intro ⟨keeps_refl, ?_⟩) | (with_reducible refine keeps_go ?_ ?_; focus (first | (simp [keeps_cons, keeps_none, objs_app, objs_app0]; done) | (simp only [keeps_cons, keeps_none, objs_app0, objs_app, and_true]; first | rfl | exact ⟨rfl, rfl⟩ | exact ⟨rfl, rfl, rfl⟩))) | (with_reducible refine (And.intro (a := keeps _ _ _) ?_ ?_); focus (first | (simp [keeps_cons, keeps_none, objs_app, objs_app0]; done) | (simp only [keeps_cons, keeps_none, objs_app0, objs_app, and_true]; first | rfl | exact ⟨rfl, rfl⟩ | exact ⟨rfl, rfl, rfl⟩))) | (refine both_ways ?_ ?_) | (rw [wrap_i64 (by omega) (by omega)]) | (refine guardV_split (fun h => ?_) (fun h => ?_) <;> (try rw [h]) <;> (try simp at h) <;> (try (exfalso; omega))))
            refine first_c hN (by omega) (fun s1 k x h1 hx hto hN1 => ?_) (fun h s1 hN1 => ?_)
            · rw [hers_first h1 hx hto] at hnil; cases hnil
            · repeat' (first | (simp -dsimp only [↓reduceIte, go_sem, t5, t7]) | (refine arr_intro fun _ => ?_) | (refine later_intro ⟨keeps_nil, ?_⟩) | (refine later_intro ⟨keeps_refl, ?_⟩) | (with_reducible refine keeps_go ?_ ?_; focus (first | (simp [keeps_cons, keeps_none, objs_app, objs_app0]; done) | (simp only [keeps_cons, keeps_none, objs_app0, objs_app, and_true]; first | rfl | exact ⟨rfl, rfl⟩ | exact ⟨rfl, rfl, rfl⟩))) | (with_reducible refine (And.intro (a := keeps _ _ _) ?_ ?_); focus (first | (simp [keeps_cons, keeps_none, objs_app, objs_app0]; done) | (simp only [keeps_cons, keeps_none, objs_app0, objs_app, and_true]; first | rfl | exact ⟨rfl, rfl⟩ | exact ⟨rfl, rfl, rfl⟩))) | (refine both_ways ?_ ?_) | (rw [wrap_i64 (by omega) (by omega)]) | (refine guardV_split (fun h => ?_) (fun h => ?_) <;> (try rw [h]) <;> (try simp at h) <;> (try (exfalso; omega))))
              refine waiting_c hN1 (by omega) ?_
              rw [hw0]
              repeat' (first | (simp -dsimp only [↓reduceIte, go_sem]) | (refine arr_intro fun _ => ?_) | (refine later_intro ⟨keeps_nil, ?_⟩) | (refine later_intro ⟨keeps_refl, ?_⟩) | (with_reducible refine keeps_go ?_ ?_; focus (first | (simp [keeps_cons, keeps_none, objs_app, objs_app0]; done) | (simp only [keeps_cons, keeps_none, objs_app0, objs_app, and_true]; first | rfl | exact ⟨rfl, rfl⟩ | exact ⟨rfl, rfl, rfl⟩))) | (with_reducible refine (And.intro (a := keeps _ _ _) ?_ ?_); focus (first | (simp [keeps_cons, keeps_none, objs_app, objs_app0]; done) | (simp only [keeps_cons, keeps_none, objs_app0, objs_app, and_true]; first | rfl | exact ⟨rfl, rfl⟩ | exact ⟨rfl, rfl, rfl⟩))) | (refine both_ways ?_ ?_) | (rw [wrap_i64 (by omega) (by omega)]) | (refine guardV_split (fun h => ?_) (fun h => ?_) <;> (try rw [h]) <;> (try simp at h) <;> (try (exfalso; omega))))
              exact hK _ hN1.x
end Go.Aff.L10

