import Derived.Test.YtpafajjginndcaaG23
import Derived.Test.YtpafajjginndcaaG11

/- Layer 21, walked: the reference's tables; the law of reading. -/
namespace Go.Aff.L21
open Go.Proofs Go.Aff Go.Aff.L01 Classical
set_option linter.unusedVariables false
set_option linter.unusedSimpArgs false
attribute [local go_sem] push_app app_app length_app cellAt_app cellAt_app0 set_app set_app0 objs_app objs_app0 List.cons_append List.nil_append List.length_cons List.length_nil List.getElem?_cons_zero List.getElem?_cons_succ List.set_cons_zero List.set_cons_succ
attribute [-go_sem] cellAt_new
attribute [local go_sem] Try.underlying3 fits4 Try.underlying4 fits5 Try.underlying5 Try.underlying9 fits22 Try.underlying22 fits23 Try.underlying23 fits29 Try.underlying29 fits43 Try.underlying43 fits44 Try.underlying44 fits46 p46_0 p46_1 p46_2 p46_3 p46_4 p46_5 Try.underlying46 fits64 p64_0 p64_1 Try.underlying64
attribute [local go_sem] fits3 fits9
attribute [local go_sem ↓] blockQ_exit2
attribute [local go_sem] List.length_map
attribute [-simp] List.length_flatMap
attribute [local go_sem] zt46 zero46 size_leaf agg_leaf shape_leafV known_leaf tup3 built46' zt3 zero3 zt23 zero23 zt64 zero64 built64' size_slV isAgg_slV shape_slV known_slV
attribute [local simp] map_own2

theorem stepN_range {s : List UInt8} {p e : Int} (h : e = 0 → 0 ≤ p ∧ p ≤ s.length) : (stepN s p e).2.2 = 0 → 0 ≤ (stepN s p e).2.1 ∧ (stepN s p e).2.1 ≤ s.length := by
  unfold stepN
  by_cases he : e = 0
  · rw [if_neg (by simp [he])]
    intro h2
    have := numR_prog h2; have := h he; omega
  · rw [if_pos he]; intro h2; exact absurd h2 he
theorem Int_c {s : List UInt8} {p e : Int} (h : e = 0 → 0 ≤ p ∧ p ≤ s.length) (hs : s.length ≤ 6000) {σ : AST} {K : AV → AST → Prop} (hK : K (.tuple [.int .i64 (stepN s p e).1, .agg [.int .i64 (stepN s p e).2.1, .int .i64 (stepN s p e).2.2]]) σ) :
    TCalls Try.prog 40 [.str s, .agg [.int .i64 p, .int .i64 e]] σ K := by
  refine TCalls.drop ?_
  refine tcalls_walk Try.f40 _ [.tmp 4, .cell 5 64] Try.func40 rfl rfl rfl mixed (Nat.le_of_ble_eq_true rfl) rfl fun hlen => ?_
  by_cases he : e = 0
  · have hp := h he
    have hr : stepN s p e = numR s p := by rw [stepN, if_neg (by simp [he])]
    rw [hr] at hK
    subst he
    repeat' (first | (simp -dsimp only [↓reduceIte, go_sem]) | (refine arr_intro fun _ => ?_) | (refine later_intro ⟨keeps_nil, ?_⟩) | (refine later_intro ⟨keeps_refl, ?_⟩) | (refine both_ways ?_ ?_) | (rw [wrap_i64 (by omega) (by omega)]) | (refine guardV_split (fun h => ?_) (fun h => ?_) <;> (try rw [h]) <;> (try simp at h) <;> (try (exfalso; omega))) | (refine ReadNumber_c (by omega) (by omega) ?_))
    exact ⟨Ext.app _ _, rfl, hK⟩
  · have hr : stepN s p e = (0, p, e) := by rw [stepN, if_pos he]
    rw [hr] at hK
    repeat' (first | (simp -dsimp only [↓reduceIte, go_sem]) | (refine arr_intro fun _ => ?_) | (refine later_intro ⟨keeps_nil, ?_⟩) | (refine later_intro ⟨keeps_refl, ?_⟩) | (refine both_ways ?_ ?_) | (rw [wrap_i64 (by omega) (by omega)]) | (refine guardV_split (fun h => ?_) (fun h => ?_) <;> (try rw [h]) <;> (try simp at h) <;> (try (exfalso; omega))) | (refine awp_drawF (id := 2) [(0, 2), (1, 2), (2, 1)] (by kernel_rfl) ?_))
    exact ⟨Ext.app _ _, rfl, hK⟩
theorem leaf6_err {s : List UInt8} {p : Int} {A B C : Int × Int × Int} {D F : List Int × Int × Int} {E : List (List UInt8) × Int × Int} (hA : stepN s p 0 = A) (hB : stepN s A.2.1 A.2.2 = B) (hC : stepN s B.2.1 B.2.2 = C) (hD : stepI s C.2.1 C.2.2 = D) (hE : stepS s D.2.1 D.2.2 = E) (hF : stepI s E.2.1 E.2.2 = F) :
    (C.2.2 ≠ 0 → (leafR s p).2.2 = C.2.2) ∧ (D.2.2 ≠ 0 → (leafR s p).2.2 = D.2.2) ∧ (E.2.2 ≠ 0 → (leafR s p).2.2 = E.2.2) ∧ (F.2.2 ≠ 0 → (leafR s p).2.2 = F.2.2) ∧ (F.2.2 = 0 → leafR s p = (⟨A.1, B.1, C.1, D.1, E.1, F.1⟩, F.2.1, F.2.2)) := by
  obtain ⟨r1, r2⟩ := leaf6_leafR (s := s) (p := p)
  have hl : leaf6 s p 0 = (⟨A.1, B.1, C.1, D.1, E.1, F.1⟩, F.2.1, F.2.2) := by simp only [leaf6, hA, hB, hC, hD, hE, hF]
  rw [hl] at r1 r2
  dsimp only at r1 r2
  have f1 : E.2.2 ≠ 0 → F.2.2 = E.2.2 := fun h => by rw [← hF, stepI, if_pos h]
  have f2 : D.2.2 ≠ 0 → E.2.2 = D.2.2 := fun h => by rw [← hE, stepS, if_pos h]
  have f3 : C.2.2 ≠ 0 → D.2.2 = C.2.2 := fun h => by rw [← hD, stepI, if_pos h]
  refine ⟨fun h => ?_, fun h => ?_, fun h => ?_, fun h => r1.symm, fun h => (r2 (by rw [← r1]; exact h)).symm⟩
  · rw [← r1, f1 (by rw [f2 (by rw [f3 h]; exact h), f3 h]; exact h), f2 (by rw [f3 h]; exact h), f3 h]
  · rw [← r1, f1 (by rw [f2 h]; exact h), f2 h]
  · rw [← r1, f1 h]

theorem RNums_c {s : List UInt8} {p : Int} (e : Int) (he : e = 0) (h : e = 0 → 0 ≤ p ∧ p ≤ s.length) (hs : s.length ≤ 6000) {σ : AST} {K : AV → AST → Prop} (hK : K (.tuple [slV (AV.int .i64) (stepI s p e).1, .int .i64 (stepI s p e).2.1, .int .i64 (stepI s p e).2.2]) σ) : TCalls Try.prog 41 [.str s, .int .i64 p] σ K := by
  have hp := h he
  refine ReadNumbers_c (by omega) (by omega) ?_
  rw [tupL_slV]
  rw [stepI, if_neg (by simp [he])] at hK
  exact hK
theorem RTexts_c {s : List UInt8} {p : Int} (e : Int) (he : e = 0) (h : e = 0 → 0 ≤ p ∧ p ≤ s.length) (hs : s.length ≤ 6000) {σ : AST} {K : AV → AST → Prop} (hK : K (.tuple [slV AV.str (stepS s p e).1, .int .i64 (stepS s p e).2.1, .int .i64 (stepS s p e).2.2]) σ) : TCalls Try.prog 42 [.str s, .int .i64 p] σ K := by
  have hp := h he
  refine ReadTexts_c (by omega) (by omega) ?_
  rw [tupL_slV]
  rw [stepS, if_neg (by simp [he])] at hK
  exact hK
theorem stepI_range {s : List UInt8} {p e : Int} (h : e = 0 → 0 ≤ p ∧ p ≤ s.length) : (stepI s p e).2.2 = 0 → 0 ≤ (stepI s p e).2.1 ∧ (stepI s p e).2.1 ≤ s.length := by
  unfold stepI
  by_cases he : e = 0
  · rw [if_neg (by simp [he])]
    intro h2
    have := readR_prog h2; have := h he; simp only [intsR, strsR] at *; omega
  · rw [if_pos he]; intro h2; exact absurd h2 he
theorem stepS_range {s : List UInt8} {p e : Int} (h : e = 0 → 0 ≤ p ∧ p ≤ s.length) : (stepS s p e).2.2 = 0 → 0 ≤ (stepS s p e).2.1 ∧ (stepS s p e).2.1 ≤ s.length := by
  unfold stepS
  by_cases he : e = 0
  · rw [if_neg (by simp [he])]
    intro h2
    have := readR_prog h2; have := h he; simp only [intsR, strsR] at *; omega
  · rw [if_pos he]; intro h2; exact absurd h2 he
theorem RGet_c {s : List UInt8} (hs : s.length ≤ 6000) {σ : AST} {K : AV → AST → Prop} (hK : K (.tuple [slV leafV ((getR s).1.map ownL), .int .i64 (getR s).2]) σ) : TCalls Try.prog 20 [.str s] σ K := by
  refine TCalls.drop ?_
  refine tcalls_walk Try.f20 _ [.tmp 2, .tmp 3] Try.func20 rfl rfl rfl mixed (Nat.le_of_ble_eq_true rfl) rfl fun hlen => ?_
  simp -dsimp only [↓reduceIte, go_sem]
  refine awp_rounds (fun (x : List Leaf × Nat) τ s' => ∃ tk, Gr σ s' tk x.1.length 6 ∧ s'.objs[σ.objs.length]? = some (.cells (.agg [.int .i64 x.2, .int .i64 0])) ∧ tkF x.1 tk ∧ x.1.length ≤ x.2 ∧ x.2 ≤ s.length ∧ getR s = finT (getL s x.2 x.1) ∧
      τ 0 = .str s ∧ τ 4 = .slice tk ((x.1.map ownL).map leafV) ∧ τ 5 = .ptr (some (σ.objs.length, []))) (fun x => s.length - x.2) ([], 0) ?_ ?_
  · refine ⟨.full, Gr.start.app, by rw [objs_app0]; rfl, .inl ⟨rfl, rfl⟩, by simp, by simp, rfl, ?_, ?_, ?_⟩ <;> (try simp only [go_sem]) <;> rfl
  · rintro ⟨acc, p⟩ τ s' ⟨tk, hgr, ho, htk, hm, hp, hget, t0, t4, t5⟩
    dsimp only at hgr ho htk hm hp hget t4
    have c0 := cellAt_known ho []
    have c1 := cellAt_known ho [0]
    simp -dsimp only [↓reduceIte, go_sem, t0, t4, t5, c0, c1]
    refine arr_intro fun _ => ?_
    simp -dsimp only [↓reduceIte, go_sem, t0, t4, t5, c0, c1]
    refine boolW_split (fun hb => ?_) (fun hb => ?_)
    · have hb : p < s.length := by simp at hb; omega
      have c2 : ∀ l, cellAt (s'.app l) σ.objs.length [0] = (AV.agg [.int .i64 p, .int .i64 0]).at [0] := fun l => cellAt_known_app ho [0] l
      generalize hA : stepN s p 0 = A
      have ha := stepN_range (s := s) (p := p) (e := 0) (fun _ => by omega)
      rw [hA] at ha
      generalize hB : stepN s A.2.1 A.2.2 = B
      have hb2 := stepN_range (s := s) ha
      rw [hB] at hb2
      generalize hC : stepN s B.2.1 B.2.2 = C
      have hc2 := stepN_range (s := s) hb2
      rw [hC] at hc2
      generalize hD : stepI s C.2.1 C.2.2 = D
      have hd2 := stepI_range (s := s) hc2
      rw [hD] at hd2
      generalize hE : stepS s D.2.1 D.2.2 = E
      have he2 := stepS_range (s := s) hd2
      rw [hE] at he2
      generalize hF : stepI s E.2.1 E.2.2 = F
      obtain ⟨e1, e2, e3, e4, e5⟩ := leaf6_err hA hB hC hD hE hF
      have g1 := getL_err (acc := acc) hb
      repeat' (first | (simp -dsimp only [↓reduceIte, go_sem, t0, t4, t5, c0, c1, c2, hA, hB, hC, hD, hE, hF]) | (refine arr_intro fun _ => ?_) | (refine later_intro ⟨keeps_nil, ?_⟩) | (refine later_intro ⟨keeps_refl, ?_⟩) | (refine both_ways ?_ ?_) | (rw [wrap_i64 (by omega) (by omega)]) | (refine guardV_split (fun h => ?_) (fun h => ?_) <;> (try rw [h]) <;> (try simp at h) <;> (try (exfalso; omega))) | (refine Int_c ha hs ?_) | (refine Int_c hb2 hs ?_) | (refine Int_c (fun _ => by omega) hs ?_) | (refine RNums_c C.2.2 (by assumption) hc2 hs ?_) | (refine RTexts_c D.2.2 (by assumption) hd2 hs ?_) | (refine RNums_c E.2.2 (by assumption) he2 hs ?_) | (refine awp_drawS (id := 8) [0, 1, 2, 3] (by kernel_rfl) ?_) | (refine build_slice E22 rfl (by decide) (by intro v hv; simp at hv; rcases hv with rfl; exact ⟨by simp only [go_sem], rfl⟩) ?_))
      · have hl := e1 ‹_›
        rw [hget, g1 (by rw [hl]; assumption), hl, finT, if_pos (by assumption)] at hK
        exact ⟨hgr.x.trans (Ext.app _ _), rfl, hK⟩
      · have hl := e2 ‹_›
        rw [hget, g1 (by rw [hl]; assumption), hl, finT, if_pos (by assumption)] at hK
        exact ⟨hgr.x.trans (Ext.app _ _), rfl, hK⟩
      · have hl := e3 ‹_›
        rw [hget, g1 (by rw [hl]; assumption), hl, finT, if_pos (by assumption)] at hK
        exact ⟨hgr.x.trans (Ext.app _ _), rfl, hK⟩
      · have hl := e4 ‹_›
        rw [hget, g1 (by rw [hl]; assumption), hl, finT, if_pos (by assumption)] at hK
        exact ⟨hgr.x.trans (Ext.app _ _), rfl, hK⟩
      · have hf : F.2.2 = 0 := ‹_›
        have hl := e5 hf
        have hq := leafR_prog (s := s) (p := p) (by rw [hl]; exact hf)
        have hgo := getL_go (acc := acc) hb (by rw [hl]; exact hf)
        rw [hl] at hq hgo
        dsimp only at hq hgo
        have hgr1 := hgr.app (l := [AObj.cells (AV.agg [AV.int .i64 C.2.1, AV.int .i64 C.2.2])])
        have o3 := objs_known_app ho [AObj.cells (AV.agg [AV.int .i64 C.2.1, AV.int .i64 C.2.2])]
        refine append_slice E22 (by decide) (tk := tk) (by simpa using hgr1.c) (by intro v hv; simp at hv; subst hv; simp only [go_sem]) size_own (by simp; omega) (by simp [maxL]; omega) ?_
        have o4 : ∀ n, (growS (s'.app [AObj.cells (AV.agg [AV.int .i64 C.2.1, AV.int .i64 C.2.2])]) tk n 6).objs[σ.objs.length]? = some (.cells (.agg [.int .i64 p, .int .i64 0])) := fun n => by rw [growS_objs]; exact o3
        have c4 : ∀ n, cellAt (growS (s'.app [AObj.cells (AV.agg [AV.int .i64 C.2.1, AV.int .i64 C.2.2])]) tk n 6) σ.objs.length [] = some (.agg [.int .i64 p, .int .i64 0]) := fun n => cellAt_known (o4 n) []
        obtain ⟨q, hqn⟩ : ∃ q : Nat, F.2.1 = q := ⟨F.2.1.toNat, by omega⟩
        rw [hqn] at hq hgo ⊢
        rw [Int.toNat_natCast] at hgo
        repeat' (first | (simp -dsimp only [↓reduceIte, go_sem, t0, t4, t5, c4, o4, o3, cellAt_known o3, List.length_map]) | (refine arr_intro fun _ => ?_) | (refine later_intro ⟨keeps_nil, ?_⟩) | (refine later_intro ⟨keeps_refl, ?_⟩) | (refine both_ways ?_ ?_) | (rw [wrap_i64 (by omega) (by omega)]) | (refine guardV_split (fun h => ?_) (fun h => ?_) <;> (try rw [h]) <;> (try simp at h) <;> (try (exfalso; omega))))
        refine later_intro ⟨(acc ++ [⟨A.1, B.1, C.1, D.1, E.1, F.1⟩], q), by dsimp only; omega, growT s' tk, ?_, ?_, tkF_grow htk, by dsimp only; simp; omega, by dsimp only; omega, by rw [hget, hgo], ?_, ?_, ?_⟩ <;> (try simp only [go_sem, t0, t4, t5]) <;> (try rfl)
        · have := (hgr1.grow (m := acc.length + 1)).set (i := σ.objs.length) (o := .cells (.agg [.int .i64 q, .int .i64 0])) (by omega)
          simpa [growT_app] using this
        · have hlt : σ.objs.length < s'.objs.length := (List.getElem?_eq_some_iff.1 ho).1
          simp only [AST.set, growS_objs]
          rw [List.getElem?_set_self (by simp [AST.app]; omega)]
        · simp [leafV_own, growT_app]
    · have hbp : ¬ p < s.length := by simp at hb; omega
      rw [getL_end hbp] at hget
      repeat' (first | (simp -dsimp only [↓reduceIte, go_sem, t0, t4, t5, c0, c1]) | (refine arr_intro fun _ => ?_) | (refine later_intro ⟨keeps_nil, ?_⟩) | (refine later_intro ⟨keeps_refl, ?_⟩) | (refine both_ways ?_ ?_) | (rw [wrap_i64 (by omega) (by omega)]) | (refine guardV_split (fun h => ?_) (fun h => ?_) <;> (try rw [h]) <;> (try simp at h) <;> (try (exfalso; omega))) | (refine Table_c (l := acc.map ownL) ?_))
      · rw [hget, finT, if_neg (by simp), if_neg (by assumption)] at hK
        exact ⟨hgr.x, rfl, hK⟩
      · rw [hget, finT, if_neg (by simp), if_pos (by assumption)] at hK
        refine ⟨hgr.x, ?_, ?_⟩
        · simp only [AV.noRef, AV.noRefs, noRef_tk (l := acc), Bool.and_true]
        · simp only [AV.strip, AV.strips]
          rw [show (AV.slice tk ((acc.map ownL).map leafV)).strip = _ from strip_tkF' htk]
          exact hK

theorem Same_c {a b : List TLeaf} {ta tb : Tk} {σ : AST} {K : AV → AST → Prop} (hK : K (.bool (decide (a.map (·.x) = b.map (·.x)))) σ) : TCalls Try.prog 21 [.slice ta (a.map leafV), .slice tb (b.map leafV)] σ K := by
  refine TCalls.drop ?_
  refine tcalls_walk Try.f21 _ [.tmp 4] Try.func21 rfl rfl rfl mixed (Nat.le_of_ble_eq_true rfl) rfl fun hlen => ?_
  have bad : ∀ s, Ext σ s → ¬ a.map (·.x) = b.map (·.x) → Ext σ s ∧ (AV.bool false).noRef = true ∧ K (AV.bool false).strip σ := fun s hx h => by
    rw [decide_eq_false h] at hK; exact ⟨hx, rfl, hK⟩
  repeat' (first | (simp -dsimp only [↓reduceIte, go_sem]) | (refine arr_intro fun _ => ?_) | (refine later_intro ⟨keeps_nil, ?_⟩) | (refine later_intro ⟨keeps_refl, ?_⟩) | (refine both_ways ?_ ?_) | (rw [wrap_i64 (by omega) (by omega)]) | (refine guardV_split (fun h => ?_) (fun h => ?_) <;> (try rw [h]) <;> (try simp at h) <;> (try (exfalso; omega))))
  · exact bad _ (Ext.refl _) (fun h => by have := congrArg List.length h; simp only [List.length_map] at this; omega)
  · have hab : a.length = b.length := by omega
    have hla : a.length ≤ 9223372036854775807 := by simpa [maxL, lenOk] using hlen _ (List.mem_cons_self ..)
    refine awp_rounds (fun (i : Nat) τ s => Ext σ s ∧ i ≤ a.length ∧ (∀ (j : Nat) x y, j < i → a[j]? = some x → b[j]? = some y → x.x = y.x) ∧ τ 0 = .slice ta (a.map leafV) ∧ τ 1 = .slice tb (b.map leafV) ∧ τ 5 = .int .i64 i) (fun i => a.length - i) 0 ?_ ?_
    · refine ⟨Ext.refl _, by omega, fun j x y h => by omega, ?_, ?_, ?_⟩ <;> (try simp only [go_sem]) <;> rfl
    · rintro i τ s ⟨hx, hi, hall, t0, t1, t5⟩
      simp -dsimp only [↓reduceIte, go_sem, t0, t1, t5]
      refine arr_intro fun _ => ?_
      simp -dsimp only [↓reduceIte, go_sem, t0, t1, t5]
      refine boolW_split (fun hb => ?_) (fun hb => ?_)
      · have hb : i < a.length := by simp at hb; omega
        obtain ⟨x, hax⟩ := get_lt hb
        obtain ⟨y, hby⟩ := get_lt (l := b) (i := i) (by omega)
        have no : x.x ≠ y.x → ¬ a.map (·.x) = b.map (·.x) := fun h e => h (by
          have := congrArg (fun l => l[i]?) e
          simpa [hax, hby] using this)
        repeat' (first | (simp -dsimp only [↓reduceIte, go_sem, t0, t1, t5, leafV]) | (refine arr_intro fun _ => ?_) | (refine later_intro ⟨keeps_nil, ?_⟩) | (refine later_intro ⟨keeps_refl, ?_⟩) | (refine both_ways ?_ ?_) | (rw [wrap_i64 (by omega) (by omega)]) | (refine guardV_split (fun h => ?_) (fun h => ?_) <;> (try rw [h]) <;> (try simp at h) <;> (try (exfalso; omega))) | (refine awp_drawT (id := 6) (.op 0 0 (.op 1 0 (.op 2 0 (.op 3 0 (.op 4 0 (.op 5 0 (.op 6 0 (.op 7 0 (.fork 8 (.op 8 1 (.op 9 1 (.op 10 1 (.op 11 1 .nil)))) (.op 9 1 (.op 8 1 (.op 10 1 (.op 11 1 .nil))))))))))))) (by kernel_rfl) ?_) | (refine nth_get hax ?_) | (refine nth_get hby ?_) | (refine ints_c ?_) | (refine same_c ?_))
        all_goals first
          | exact bad _ (hx.trans (Ext.app _ _)) (no (fun e => absurd (congrArg Leaf.num e) (by assumption)))
          | exact bad _ (hx.trans (Ext.app _ _)) (no (fun e => absurd (congrArg Leaf.kind e) (by assumption)))
          | exact bad _ (hx.trans (Ext.app _ _)) (no (fun e => absurd (congrArg Leaf.size e) (by assumption)))
          | exact bad _ (hx.trans (Ext.app _ _)) (no (fun e => absurd (congrArg Leaf.blocks e) (by assumption)))
          | exact bad _ (hx.trans (Ext.app _ _)) (no (fun e => absurd (congrArg Leaf.names e) (by assumption)))
          | exact bad _ (hx.trans (Ext.app _ _)) (no (fun e => absurd (congrArg Leaf.nodes e) (by assumption)))
          | skip
        all_goals
          refine later_intro ⟨i + 1, by omega, hx.trans (Ext.app _ _), by omega, ?_, ?_, ?_, ?_⟩ <;> (try simp only [go_sem, t0, t1, t5]) <;> (try rfl)
          intro j u v hj hu hv
          by_cases hji : j < i
          · exact hall j u v hji hu hv
          · obtain rfl : j = i := by omega
            rw [hax] at hu; rw [hby] at hv; cases hu; cases hv
            obtain ⟨⟨_, _, _, _, _, _⟩, _, _, _⟩ := x
            obtain ⟨⟨_, _, _, _, _, _⟩, _, _, _⟩ := y
            simp_all
      · have hb : i = a.length := by simp at hb; omega
        repeat' (first | (simp -dsimp only [↓reduceIte, go_sem, t0, t1, t5]) | (refine arr_intro fun _ => ?_) | (refine later_intro ⟨keeps_nil, ?_⟩) | (refine later_intro ⟨keeps_refl, ?_⟩) | (refine both_ways ?_ ?_) | (rw [wrap_i64 (by omega) (by omega)]) | (refine guardV_split (fun h => ?_) (fun h => ?_) <;> (try rw [h]) <;> (try simp at h) <;> (try (exfalso; omega))))
        rw [decide_eq_true] at hK
        · exact ⟨hx, rfl, hK⟩
        · apply List.ext_getElem?
          intro j
          by_cases hj : j < a.length
          · obtain ⟨x, hax⟩ := get_lt hj
            obtain ⟨y, hby⟩ := get_lt (l := b) (i := j) (by omega)
            simp only [List.getElem?_map, hax, hby, Option.map_some, hall j x y (by omega) hax hby]
          · rw [List.getElem?_eq_none (by simp; omega), List.getElem?_eq_none (by simp; omega)]

theorem imageGets_c {s : List UInt8} {σ : AST} {K : AV → AST → Prop} (hK : K (.bool true) σ) : TCalls Try.prog 6 [.str s] σ K := by
  refine tcalls_walk Try.f6 _ [.tmp 2] Try.func6 rfl rfl rfl mixed (Nat.le_of_ble_eq_true rfl) rfl fun hlen => ?_
  repeat' (first | (simp -dsimp only [↓reduceIte, go_sem, slV]) | (refine arr_intro fun _ => ?_) | (refine later_intro ⟨keeps_nil, ?_⟩) | (refine later_intro ⟨keeps_refl, ?_⟩) | (refine both_ways ?_ ?_) | (rw [wrap_i64 (by omega) (by omega)]) | (refine guardV_split (fun h => ?_) (fun h => ?_) <;> (try rw [h]) <;> (try simp at h) <;> (try (exfalso; omega))) | (refine awake_c ?_) | (refine Get_c (by omega) ?_) | (refine RGet_c (by omega) ?_) | (refine Same_c ?_))
  all_goals first | exact hK | (exfalso; omega) | (simp_all; done) | (simp_all; omega) | trace_state
end Go.Aff.L21

/- What is known of arguments' sizes. -/
namespace Go.Aff
set_option linter.unusedVariables false
set_option linter.unusedSimpArgs false
open Go.RowKit Go.ChangeShapes Go.WideShapes Go.ChangeAt Go.ChangeMaps

variable {H : Type} {enc : TypeId × Value → H} {P : Program} {W : World} {g : G}

mutual
/-- No slice within is longer than memory. -/
def WtT (P : Program) : Nat → TypeId → AV → Prop
  | 0, _, _ => True
  | n + 1, t, v => match P.underlying t with
    | some (.slice e) => ∀ tk xs, v = .slice tk xs → xs.length * P.bytesOf e ≤ 140737488351232 ∧ ∀ x ∈ xs, WtT P n e x
    | some (.struct fs) => ∀ ps, v = .agg ps → WtTs P n fs.toList ps
    | _ => True
def WtTs (P : Program) : Nat → List Field → List AV → Prop
  | 0, _, _ => True
  | n + 1, f :: fs, p :: ps => WtT P n f.type p ∧ WtTs P n fs ps
  | _, _, _ => True
end
def WtAll (P : Program) (n : Nat) : List TypeId → List AV → Prop
  | t :: ts, v :: vs => WtT P n t v ∧ WtAll P n ts vs
  | _, _ => True

theorem weightsAll_mem {e : TypeId} : ∀ {l : List (DataW H)} {d : DataW H}, d ∈ l → ∀ x ∈ d.weights P e, x ∈ DataW.weightsAll P e l
  | [], d, h => by simp at h
  | a :: r, d, h => fun x hx => by
    simp only [DataW.weightsAll, List.mem_append]
    rcases List.mem_cons.1 h with rfl | h
    · exact .inl hx
    · exact .inr (weightsAll_mem h x hx)

mutual
theorem wt_of : ∀ (m : Nat) (t : TypeId) (d : DataW H), (∀ x ∈ d.weights P t, x ≤ reachBytes) → WtT P m t (absD d)
  | 0, t, d, h => trivial
  | m + 1, t, d, h => by
    unfold WtT
    split
    · rename_i e hu
      intro tk xs hv
      cases d with
      | slice elems spare =>
        simp only [absD, AV.slice.injEq] at hv
        obtain ⟨rfl, rfl⟩ := hv
        simp only [DataW.weights, hu] at h
        have h1 := h _ (List.mem_cons_self ..)
        rw [absDs_map]
        refine ⟨?_, fun x hx => ?_⟩
        · rw [List.length_map]
          have : reachBytes = 140737488351232 := by decide
          rw [this] at h1
          exact Nat.le_trans (Nat.mul_le_mul_right _ (Nat.le_add_right _ _)) h1
        · obtain ⟨d, hd, rfl⟩ := List.mem_map.1 hx
          exact wt_of m e d fun y hy => h y (List.mem_cons_of_mem _ (List.mem_append_left _ (weightsAll_mem hd y hy)))
      | nil =>
        simp only [absD, AV.slice.injEq] at hv
        obtain ⟨rfl, rfl⟩ := hv
        simp
      | lit l => cases l <;> simp [absD] at hv
      | agg ps =>
        simp only [absD] at hv
        rcases aggD_cases (absDs ps) with ⟨d, h1⟩ | h1 <;> rw [h1] at hv <;> cases hv
      | ptr d => simp [absD] at hv
      | iface n d => simp [absD] at hv
      | map es => simp [absD] at hv
      | held x => simp [absD] at hv
    · rename_i fs hu
      intro ps hv
      cases d with
      | agg parts =>
        simp only [absD] at hv
        have hv : absDs parts = ps := by
          rcases aggD_cases (absDs parts) with ⟨d, h1⟩ | h1
          · rw [h1] at hv; cases hv
          · rw [h1] at hv; simpa using hv
        subst hv
        simp only [DataW.weights, hu] at h
        exact wts_of m fs.toList parts h
      | slice elems spare => simp [absD] at hv
      | nil => simp [absD] at hv
      | lit l => cases l <;> simp [absD] at hv
      | ptr d => simp [absD] at hv
      | iface n d => simp [absD] at hv
      | map es => simp [absD] at hv
      | held x => simp [absD] at hv
    · trivial
theorem wts_of : ∀ (m : Nat) (fs : List Field) (ds : List (DataW H)), (∀ x ∈ DataW.weightsEach P (fs.map (·.type)) ds, x ≤ reachBytes) → WtTs P m fs (absDs ds)
  | 0, fs, ds, h => by unfold WtTs; trivial
  | m + 1, [], ds, h => by unfold WtTs; trivial
  | m + 1, f :: fs, [], h => by simp only [absDs]; unfold WtTs; trivial
  | m + 1, f :: fs, d :: ds, h => by
    simp only [absDs, WtTs]
    simp only [List.map_cons, DataW.weightsEach, List.mem_append] at h
    exact ⟨wt_of m f.type d fun x hx => h x (.inl hx), wts_of m fs ds fun x hx => h x (.inr hx)⟩
end
theorem wtAll_of {n : Nat} : ∀ (ts : List TypeId) (ds : List (DataW H)), (∀ x ∈ DataW.weightsEach P ts ds, x ≤ reachBytes) → WtAll P n ts (ds.map absD)
  | [], ds, h => by cases ds <;> trivial
  | t :: ts, [], h => trivial
  | t :: ts, d :: ds, h => by
    simp only [DataW.weightsEach, List.mem_append] at h
    exact ⟨wt_of n t d fun x hx => h x (.inl hx), wtAll_of ts ds fun x hx => h x (.inr hx)⟩

/-- As lift_law, where the law may know that arguments fit into memory. -/
theorem lift_law_w {C : Checked} {os : Os} {f : FuncId} {fn : Func} {s : ChangeSpec} {conds : List PathCond} {tb : TypeId} (own : ownKnob C.prog.godebug = none) (started : os.Started) (noInit : C.prog.inits.idxOf? f = none) (hfn : C.prog.funcs[f]? = some fn)
    (witness : ∃ (w : World) (tape : Tape) (i : Input), w.os = os ∧ (w.forCall tape i).Shaped C.prog ∧ i.vars = [] ∧ Input.okWide C.prog (w.forCall tape i) .any w.heap.size f i ∧
      s.pre6 enc C.prog fn conds false (w.forCall tape i).memory i.args ∧ Assume.holds {} C.prog (lone (Frame.enter C.prog f i.args .normal) [] (w.forCall tape i)))
    (hvars : s.vars = []) (hs : ∀ ds : List (DataW H), ds.length = fn.params.toList.length → s.fn H ds = { results := [.lit (.bool true)], args := ds }) (hl : laidOutB C.prog = true)
    (hp : (fn.params.toList.all fun t => plainT C.prog 12 t && shOk C.prog 12 t) = true) (hr : (fn.params.toList.all fun t => C.prog.readableRec t && decide (t < C.prog.types.size)) = true)
    (hres : fn.resultTypes = #[tb]) (hb : C.prog.underlying tb = some .bool)
    (law : ∀ vs, ShAll C.prog 12 fn.params.toList vs → WtAll C.prog 12 fn.params.toList vs → TCalls C.prog f vs ⟨[], []⟩ fun v _ => v = .bool true) :
    ReturnsInHanded {} C os f .any (s.pre6 enc C.prog fn conds false) (s.post enc C.prog fn false true false false) := by
  refine returnsInHanded_of_change_sized own started noInit hfn witness ?_
  intro W base args ds gs before hval hW _ hwt _
  obtain ⟨p, q, hA, hV, rfl, hfz, hnd⟩ := id hW
  rw [hvars] at hV
  obtain ⟨rfl, rfl⟩ := trodVars_nil hV
  have hvt : s.plain.varTypes C.prog = [] := by simp [ChangeSpec.plain, hvars, DataSpec.varTypes]
  rw [hvt, List.append_nil, List.append_nil, List.all_eq_true] at hwt
  have hwt' : WtAll C.prog 12 fn.params.toList (ds.map absD) := wtAll_of _ _ fun x hx => by simpa using hwt x hx
  let g0 : G := ⟨W.heap.size, [], fun _ => none, []⟩
  have hrel := args_rel (g := g0) (enc := enc) (P := C.prog) (W := W) (base := base) (Nat.le_refl _) fn.params.toList args.toList ds p hp hA (fun j t v ht hv => hval j t v (by simpa using ht) (by simpa using hv))
  have hI : Inv g0 ⟨[], []⟩ W := by
    refine ⟨Nat.le_refl _, rfl, ?_, ?_, ?_, rfl, ?_, ?_⟩
    · intro i o h; simp at h
    · intro i j o o' b sh sh' h; simp at h
    · intro b L h; cases h
    · intro t e h; simp [g0] at h
    · intro t u e e' b o o' h; simp [g0] at h
  refine ((law _ hrel.2 hwt').2 g0 W args hI hrel.1).mono ?_
  rintro e W' ⟨x, g', v, σ', he, hE, hI', hv, rfl⟩
  have hx : x = .bool true := relV_bool hv
  subst hx
  subst he
  have bel : Below W.heap.size W W' := ⟨hE.os, hE.tape, hE.output, hE.size, fun k hk => hE.old k hk⟩
  have hlen := trodAll_len _ _ _ _ hA
  refine ⟨_, rfl, ds, [], p ++ [], [], p, [], hW, ?_, ?_, ?_, bel.frame _, fun h => by cases h⟩
  · rw [List.append_nil, hs ds hlen, hres]
    exact trodAll_mk1 (shut_bool hb _)
  · rw [List.append_nil, hs ds hlen]
    exact args_stay hl bel _ _ _ _ hr hA
  · rw [List.append_nil, hs ds hlen, hvars]
    rfl
theorem wt_slice {n : Nat} {t e : TypeId} {tk : Tk} {xs : List AV} (hu : P.underlying t = some (.slice e)) (h : WtT P (n + 1) t (.slice tk xs)) : xs.length * P.bytesOf e ≤ 140737488351232 ∧ ∀ x ∈ xs, WtT P n e x := by
  unfold WtT at h; rw [hu] at h; exact h tk xs rfl
theorem wt_struct {n : Nat} {t : TypeId} {fs : Array Field} {ps : List AV} (hu : P.underlying t = some (.struct fs)) (h : WtT P (n + 1) t (.agg ps)) : WtTs P n fs.toList ps := by
  unfold WtT at h; rw [hu] at h; exact h ps rfl
theorem wtTs_cons {n : Nat} {f : Field} {fs : List Field} {p : AV} {ps : List AV} (h : WtTs P (n + 1) (f :: fs) (p :: ps)) : WtT P n f.type p ∧ WtTs P n fs ps := by
  unfold WtTs at h; exact h
end Go.Aff

/- Layer 21: what an argument's shape says of a table. -/
namespace Go.Aff.L21
open Go.Proofs Go.Aff Go.Aff.L01 Classical
set_option linter.unusedVariables false

theorem sh_ints {n : Nat} {v : AV} (h : ShT Try.prog (n + 2) 44 v) : ∃ (tk : Tk) (l : List Int), v = .slice tk (l.map (AV.int .i64)) := by
  obtain ⟨tk, xs, rfl, e⟩ := sh_slice (n := n + 1) (t := 44) Try.underlying44 h
  obtain ⟨l, rfl, _⟩ := map_of (f := AV.int .i64) (p := fun _ => True) (fun x hx => by obtain ⟨i, rfl, _, _⟩ := sh_int (n := n) (t := 3) Try.underlying3 (e x hx); exact ⟨i, rfl, trivial⟩)
  exact ⟨tk, l, rfl⟩
theorem sh_strs {n : Nat} {v : AV} (h : ShT Try.prog (n + 2) 29 v) : ∃ (tk : Tk) (l : List (List UInt8)), v = .slice tk (l.map AV.str) := by
  obtain ⟨tk, xs, rfl, e⟩ := sh_slice (n := n + 1) (t := 29) Try.underlying29 h
  obtain ⟨l, rfl, _⟩ := map_of (f := AV.str) (p := fun _ => True) (fun x hx => by obtain ⟨i, rfl⟩ := sh_str (n := n) (t := 9) Try.underlying9 (e x hx); exact ⟨i, rfl, trivial⟩)
  exact ⟨tk, l, rfl⟩
theorem sh_leaf {n : Nat} {v : AV} (h : ShT Try.prog (n + 9) 46 v) : ∃ y : TLeaf, v = leafV y ∧ True := by
  obtain ⟨ps, rfl, hps⟩ := sh_struct (n := n + 8) Try.underlying46 h
  obtain ⟨p0, r, rfl, h0, hps⟩ := shTs_cons (n := n + 7) hps
  obtain ⟨p1, r, rfl, h1, hps⟩ := shTs_cons (n := n + 6) hps
  obtain ⟨p2, r, rfl, h2, hps⟩ := shTs_cons (n := n + 5) hps
  obtain ⟨p3, r, rfl, h3, hps⟩ := shTs_cons (n := n + 4) hps
  obtain ⟨p4, r, rfl, h4, hps⟩ := shTs_cons (n := n + 3) hps
  obtain ⟨p5, r, rfl, h5, hps⟩ := shTs_cons (n := n + 2) hps
  obtain rfl := shTs_nil hps
  obtain ⟨a, rfl, _, _⟩ := sh_int (t := 3) Try.underlying3 h0
  obtain ⟨b, rfl, _, _⟩ := sh_int (t := 3) Try.underlying3 h1
  obtain ⟨c, rfl, _, _⟩ := sh_int (t := 3) Try.underlying3 h2
  obtain ⟨t1, l1, rfl⟩ := sh_ints h3
  obtain ⟨t2, l2, rfl⟩ := sh_strs h4
  obtain ⟨t3, l3, rfl⟩ := sh_ints (n := n) h5
  exact ⟨⟨⟨a, b, c, l1, l2, l3⟩, t1, t2, t3⟩, rfl, trivial⟩
theorem sh_table {v : AV} (h : ShT Try.prog 12 22 v) : ∃ (tk : Tk) (l : List TLeaf), v = .slice tk (l.map leafV) := by
  obtain ⟨tk, xs, rfl, e⟩ := sh_slice (n := 11) (t := 22) Try.underlying22 h
  obtain ⟨l, rfl, _⟩ := map_of (f := leafV) (p := fun _ => True) (fun x hx => sh_leaf (n := 2) (e x hx))
  exact ⟨tk, l, rfl⟩
end Go.Aff.L21

