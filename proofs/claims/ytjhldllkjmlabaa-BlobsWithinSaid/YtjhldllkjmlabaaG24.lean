import Derived.Test.YtjhldllkjmlabaaG23

set_option linter.unusedSimpArgs false
set_option linter.unusedVariables false

/- Layer 11, walked: the reference's Put, Prune. -/
-- cuts
namespace Go.Aff.L10
open Go.Proofs Go.Aff Go.Aff.L01 Classical
set_option linter.unusedVariables false
set_option linter.unusedSimpArgs false
set_option maxRecDepth 20000
attribute [local go_sem] push_app app_app length_app cellAt_app cellAt_app0 set_app set_app0 objs_app objs_app0 List.cons_append List.nil_append List.length_cons List.length_nil List.getElem?_cons_zero List.getElem?_cons_succ List.set_cons_zero List.set_cons_succ List.length_map
attribute [-go_sem] cellAt_new
attribute [-simp] List.length_flatMap
attribute [local go_sem] Try.underlying3 Try.underlying4 Try.underlying5 Try.underlying9 Try.underlying24 Try.underlying43 Try.underlying37 Try.underlying22 Try.underlying32 blobPs_0 blobAt_0 blobSet_0 blobPs_1 blobAt_1 blobSet_1 blobPs_2 blobAt_2 blobSet_2 blobPs_3 blobAt_3 blobSet_3 sizes_blob shapes_blob fits_blob zero_blob zt_blob built_blob Try.underlying26 bkeyPs_0 bkeyAt_0 bkeySet_0 bkeyPs_1 bkeyAt_1 bkeySet_1 sizes_bkey shapes_bkey fits_bkey zero_bkey zt_bkey built_bkey Try.underlying56 rstPs_0 rstAt_0 rstSet_0 sizes_rst shapes_rst fits_rst zero_rst zt_rst built_rst Try.underlying45 actPs_0 actAt_0 actSet_0 actPs_1 actAt_1 actSet_1 actPs_2 actAt_2 actSet_2 actPs_3 actAt_3 actSet_3 actPs_4 actAt_4 actSet_4 sizes_act shapes_act fits_act zero_act zt_act built_act Try.underlying42
attribute [local go_sem] fits3 fits4 fits5 fits9 fits23 fits26 fits31 fits34 zt3 zero3 bin_blob_eql bin_blob_neq
attribute [local go_sem ↓] blockQ_exit2
attribute [local simp] dig_ext
attribute [local go_sem] fits58 stAt zero60 zt60 built60 fits60 shape_mp Try.underlying58 Try.underlying60 Try.underlying27 Try.underlying28
theorem growS_objsB {σ : AST} {tk : Tk} {n es : Nat} : (growS σ tk n es).objs = σ.objs := by cases tk <;> rfl
theorem objs_growSB {σ : AST} {tk : Tk} {n es k : Nat} : (growS σ tk n es).objs[k]? = σ.objs[k]? := by rw [growS_objsB]
section
variable {σ0 s s2 : AST} {k : Nat} {B : List Blob} {F : List (Nat × AObj)} {K : AV → AST → Prop}
theorem RB.store (h : RB σ0 s k B F) {n : Nat} {t : Tk} {B' : List Blob} : RB σ0 ((growS s .full n 35).set k (.cells (.agg (rstPs t ⟨B'⟩)))) k B' F := by
  obtain ⟨tk, ho⟩ := h.o
  exact ⟨(h.x.grow (.inl rfl)).set h.kn, h.kn, ⟨_, objs_setSB (by rw [growS_objsB]; exact cell_ltB ho)⟩, fun y hy => ⟨(h.f y hy).1, by rw [objs_setNB (Ne.symm (h.f y hy).1), growS_objsB]; exact (h.f y hy).2⟩⟩
theorem rput_c (h : RB σ0 s k B F) (hB : BOk B) {b : Blob} (hK : ∀ s', RB σ0 s' k (bput B b).1 F → K (.int .i64 (bput B b).2) s') : TCalls Try.prog 24 [.ptr (some (k, [])), .agg (blobPs b)] s K := by
  have hA := fun l => h.ext (Ext.app s l)
  obtain ⟨tk, ho⟩ := h.o
  have oA := fun l => objs_known_app ho l
  have cA := fun l => cellAt_known (oA l)
  have hlen := hB.len
  have hkl := cell_ltB ho
  have hbl : b.cipher.length ≤ maxL → b.cipher.length ≤ 9223372036854775807 := id
  unfold bput at hK
  by_cases hr : b.Rt
  · rw [if_neg (fun hh => hh hr)] at hK
    obtain ⟨r1, r2, r3, r4, r5⟩ := hr
    have g1 : ¬ b.owner < 0 := by omega
    have g2 : ¬ b.owner > 7 := by omega
    have g3 : ¬ b.num < 0 := by omega
    have g4 : ¬ b.num > 1099511627776 := by omega
    have g5 : ¬ (b.cipher.length : Int) > 4096 := by omega
    cases hf : bfind B b.owner b.num with
    | some i =>
      obtain ⟨b', hb', _⟩ := bfind_some hf
      have hat : batI B b.owner b.num = i := by unfold batI; rw [hf]
      simp only [hf, hb', Option.some.injEq] at hK
      by_cases he : b' = b
      · rw [if_pos he] at hK
        subst he
        refine tcalls_walk Try.f24 _ [.tmp 4] Try.func24 rfl rfl rfl mixed (Nat.le_of_ble_eq_true rfl) rfl fun hlen => ?_
        repeat' (first | (simp -dsimp only [↓reduceIte, go_sem, cA, g1, g2, g3, g4, g5, hat, decide_false]) | (refine arr_intro fun _ => ?_) | (refine later_intro ⟨keeps_nil, ?_⟩) | (refine later_intro ⟨keeps_refl, ?_⟩) | (with_reducible refine keeps_go ?_ ?_; focus (first | (simp [keeps_cons, keeps_none, objs_app, objs_app0]; done) | (simp only [keeps_cons, keeps_none, objs_app0, objs_app, and_true]; first | rfl | exact ⟨rfl, rfl⟩ | exact ⟨rfl, rfl, rfl⟩))) | (with_reducible refine (And.intro (a := keeps _ _ _) ?_ ?_); focus (first | (simp [keeps_cons, keeps_none, objs_app, objs_app0]; done) | (simp only [keeps_cons, keeps_none, objs_app0, objs_app, and_true]; first | rfl | exact ⟨rfl, rfl⟩ | exact ⟨rfl, rfl, rfl⟩))) | (refine both_ways ?_ ?_) | (rw [wrap_i64 (by omega) (by omega)]) | (refine guardV_split (fun h => ?_) (fun h => ?_) <;> (try rw [h]) <;> (try simp at h) <;> (try (exfalso; omega))) | ((refine rat_c (hA _) hB ?_)) | (with_reducible refine awp_drawS (id := 4) [0, 1, 2, 3, 4, 5, 6, 7, 8, 9, 10, 11, 12] (by kernel_rfl) ?_) | (with_reducible refine keeps_go ?_ ?_; focus (simp [keeps_cons, keeps_none, objs_app, objs_app0, oA]; done)) | (with_reducible refine (And.intro (a := keeps _ _ _) ?_ ?_); focus (simp [keeps_cons, keeps_none, objs_app, objs_app0, oA]; done)) | (refine nth_get hb' ?_))
        exact hK _ (hA _)
      · rw [if_neg he] at hK
        refine tcalls_walk Try.f24 _ [.tmp 4] Try.func24 rfl rfl rfl mixed (Nat.le_of_ble_eq_true rfl) rfl fun hlen => ?_
        repeat' (first | (simp -dsimp only [↓reduceIte, go_sem, cA, g1, g2, g3, g4, g5, hat, he, decide_false]) | (refine arr_intro fun _ => ?_) | (refine later_intro ⟨keeps_nil, ?_⟩) | (refine later_intro ⟨keeps_refl, ?_⟩) | (with_reducible refine keeps_go ?_ ?_; focus (first | (simp [keeps_cons, keeps_none, objs_app, objs_app0]; done) | (simp only [keeps_cons, keeps_none, objs_app0, objs_app, and_true]; first | rfl | exact ⟨rfl, rfl⟩ | exact ⟨rfl, rfl, rfl⟩))) | (with_reducible refine (And.intro (a := keeps _ _ _) ?_ ?_); focus (first | (simp [keeps_cons, keeps_none, objs_app, objs_app0]; done) | (simp only [keeps_cons, keeps_none, objs_app0, objs_app, and_true]; first | rfl | exact ⟨rfl, rfl⟩ | exact ⟨rfl, rfl, rfl⟩))) | (refine both_ways ?_ ?_) | (rw [wrap_i64 (by omega) (by omega)]) | (refine guardV_split (fun h => ?_) (fun h => ?_) <;> (try rw [h]) <;> (try simp at h) <;> (try (exfalso; omega))) | ((refine rat_c (hA _) hB ?_)) | (with_reducible refine awp_drawS (id := 4) [0, 1, 2, 3, 4, 5, 6, 7, 8, 9, 10, 11, 12] (by kernel_rfl) ?_) | (with_reducible refine keeps_go ?_ ?_; focus (simp [keeps_cons, keeps_none, objs_app, objs_app0, oA]; done)) | (with_reducible refine (And.intro (a := keeps _ _ _) ?_ ?_); focus (simp [keeps_cons, keeps_none, objs_app, objs_app0, oA]; done)) | (refine nth_get hb' ?_))
        exact hK _ (hA _)
    | none =>
      have hat : batI B b.owner b.num = -1 := by unfold batI; rw [hf]
      simp only [hf] at hK
      have hn := hB.n b.owner
      have hb := hB.b b.owner
      have w1 : IntKind.i64.wrap ((usedN B b.owner : Nat) + 1) = ((usedN B b.owner : Nat) : Int) + 1 := wrap_i64 (by omega) (by omega)
      have w2 : IntKind.i64.wrap ((usedB B b.owner : Nat) + (b.cipher.length : Nat)) = ((usedB B b.owner : Nat) : Int) + (b.cipher.length : Nat) := wrap_i64 (by omega) (by omega)
      by_cases hroom : 256 ≤ usedN B b.owner ∨ 32768 < usedB B b.owner + b.cipher.length
      · rw [if_pos hroom] at hK
        refine tcalls_walk Try.f24 _ [.tmp 4] Try.func24 rfl rfl rfl mixed (Nat.le_of_ble_eq_true rfl) rfl fun hlen => ?_
        repeat' (first | (simp -dsimp only [↓reduceIte, go_sem, cA, g1, g2, g3, g4, g5, hat, w1, w2, decide_false]) | (refine arr_intro fun _ => ?_) | (refine later_intro ⟨keeps_nil, ?_⟩) | (refine later_intro ⟨keeps_refl, ?_⟩) | (with_reducible refine keeps_go ?_ ?_; focus (first | (simp [keeps_cons, keeps_none, objs_app, objs_app0]; done) | (simp only [keeps_cons, keeps_none, objs_app0, objs_app, and_true]; first | rfl | exact ⟨rfl, rfl⟩ | exact ⟨rfl, rfl, rfl⟩))) | (with_reducible refine (And.intro (a := keeps _ _ _) ?_ ?_); focus (first | (simp [keeps_cons, keeps_none, objs_app, objs_app0]; done) | (simp only [keeps_cons, keeps_none, objs_app0, objs_app, and_true]; first | rfl | exact ⟨rfl, rfl⟩ | exact ⟨rfl, rfl, rfl⟩))) | (refine both_ways ?_ ?_) | (rw [wrap_i64 (by omega) (by omega)]) | (refine guardV_split (fun h => ?_) (fun h => ?_) <;> (try rw [h]) <;> (try simp at h) <;> (try (exfalso; omega))) | ((refine rat_c (hA _) hB ?_)) | ((refine rused_c (hA _) hB ?_)) | (with_reducible refine awp_drawS (id := 4) [0, 1, 2, 3, 4, 5, 6, 7, 8, 9, 10, 11, 12] (by kernel_rfl) ?_) | (with_reducible refine keeps_go ?_ ?_; focus (simp [keeps_cons, keeps_none, objs_app, objs_app0, oA]; done)) | (with_reducible refine (And.intro (a := keeps _ _ _) ?_ ?_); focus (simp [keeps_cons, keeps_none, objs_app, objs_app0, oA]; done)))
        all_goals first | exact hK _ (hA _) | (exfalso; omega)
      · rw [if_neg hroom] at hK
        refine tcalls_walk Try.f24 _ [.tmp 4] Try.func24 rfl rfl rfl mixed (Nat.le_of_ble_eq_true rfl) rfl fun hlen => ?_
        repeat' (first | (simp -dsimp only [↓reduceIte, go_sem, cA, oA, g1, g2, g3, g4, g5, hat, w1, w2, decide_false, cellAt_growS, objs_growSB]) | (refine arr_intro fun _ => ?_) | (refine later_intro ⟨keeps_nil, ?_⟩) | (refine later_intro ⟨keeps_refl, ?_⟩) | (with_reducible refine keeps_go ?_ ?_; focus (first | (simp [keeps_cons, keeps_none, objs_app, objs_app0]; done) | (simp only [keeps_cons, keeps_none, objs_app0, objs_app, and_true]; first | rfl | exact ⟨rfl, rfl⟩ | exact ⟨rfl, rfl, rfl⟩))) | (with_reducible refine (And.intro (a := keeps _ _ _) ?_ ?_); focus (first | (simp [keeps_cons, keeps_none, objs_app, objs_app0]; done) | (simp only [keeps_cons, keeps_none, objs_app0, objs_app, and_true]; first | rfl | exact ⟨rfl, rfl⟩ | exact ⟨rfl, rfl, rfl⟩))) | (refine both_ways ?_ ?_) | (rw [wrap_i64 (by omega) (by omega)]) | (refine guardV_split (fun h => ?_) (fun h => ?_) <;> (try rw [h]) <;> (try simp at h) <;> (try (exfalso; omega))) | ((refine rat_c (hA _) hB ?_)) | ((refine rused_c (hA _) hB ?_)) | (with_reducible refine awp_drawS (id := 4) [0, 1, 2, 3, 4, 5, 6, 7, 8, 9, 10, 11, 12] (by kernel_rfl) ?_) | (with_reducible refine awp_drawU (id := 11) (.op 0 0 (.op 1 2 (.op 2 2 (.op 3 2 (.op 4 2 (.op 5 2 (.op 7 0 (.op 8 0 (.op 6 1 (.op 9 1 (.cut (.op 10 2 (.op 11 2 (.op 12 1 .nil)))))))))))))) (by kernel_rfl) ?_) | (with_reducible refine keeps_go ?_ ?_; focus (simp [keeps_cons, keeps_none, objs_app, objs_app0, oA]; done)) | (with_reducible refine (And.intro (a := keeps _ _ _) ?_ ?_); focus (simp [keeps_cons, keeps_none, objs_app, objs_app0, oA]; done)) | (refine build_slice E43 rfl (by decide) (by intro v hv; simp at hv; try (subst hv; simp [go_sem])) ?_) | (refine append_bnone (by omega) ?_) | (refine append_blob canGrow (by omega) ?_))
        all_goals first | (exfalso; omega) | exact hK _ (by rw [growFull]; exact (hA _).store)
  · rw [if_pos hr] at hK
    refine tcalls_walk Try.f24 _ [.tmp 4] Try.func24 rfl rfl rfl mixed (Nat.le_of_ble_eq_true rfl) rfl fun hlen => ?_
    repeat' (first | (simp -dsimp only [↓reduceIte, go_sem, cA]) | (refine arr_intro fun _ => ?_) | (refine later_intro ⟨keeps_nil, ?_⟩) | (refine later_intro ⟨keeps_refl, ?_⟩) | (with_reducible refine keeps_go ?_ ?_; focus (first | (simp [keeps_cons, keeps_none, objs_app, objs_app0]; done) | (simp only [keeps_cons, keeps_none, objs_app0, objs_app, and_true]; first | rfl | exact ⟨rfl, rfl⟩ | exact ⟨rfl, rfl, rfl⟩))) | (with_reducible refine (And.intro (a := keeps _ _ _) ?_ ?_); focus (first | (simp [keeps_cons, keeps_none, objs_app, objs_app0]; done) | (simp only [keeps_cons, keeps_none, objs_app0, objs_app, and_true]; first | rfl | exact ⟨rfl, rfl⟩ | exact ⟨rfl, rfl, rfl⟩))) | (refine both_ways ?_ ?_) | (rw [wrap_i64 (by omega) (by omega)]) | (refine guardV_split (fun h => ?_) (fun h => ?_) <;> (try rw [h]) <;> (try simp at h) <;> (try (exfalso; omega))))
    all_goals first | exact hK _ (hA _) | (exfalso; exact hr ⟨by omega, by omega, by omega, by omega, by omega⟩)
theorem take_eraseB {B : List Blob} {i : Nat} : B.take i ++ B.drop (i + 1) = B.eraseIdx i := (List.eraseIdx_eq_take_drop_succ ..).symm
theorem rprune_c (h : RB σ0 s k B F) (hB : BOk B) {o : Int} {tl : Tk} {l : List Int} (hK : ∀ s', RB σ0 s' k (bprune B o l).1 F → K (.int .i64 (bprune B o l).2) s') : TCalls Try.prog 22 [.ptr (some (k, [])), .int .i64 o, .slice tl (l.map (AV.int .i64))] s K := by
  refine tcalls_walk Try.f22 _ [.tmp 6] Try.func22 rfl rfl rfl mixed (Nat.le_of_ble_eq_true rfl) rfl fun hlen => ?_
  have hll : l.length ≤ 9223372036854775807 := by
    have := hlen (.slice tl (l.map (AV.int .i64))) (by simp)
    simp only [lenOk, List.length_map, maxL] at this; exact this
  repeat' (first | (simp -dsimp only [↓reduceIte, go_sem]) | (refine arr_intro fun _ => ?_) | (refine later_intro ⟨keeps_nil, ?_⟩) | (refine later_intro ⟨keeps_refl, ?_⟩) | (with_reducible refine keeps_go ?_ ?_; focus (first | (simp [keeps_cons, keeps_none, objs_app, objs_app0]; done) | (simp only [keeps_cons, keeps_none, objs_app0, objs_app, and_true]; first | rfl | exact ⟨rfl, rfl⟩ | exact ⟨rfl, rfl, rfl⟩))) | (with_reducible refine (And.intro (a := keeps _ _ _) ?_ ?_); focus (first | (simp [keeps_cons, keeps_none, objs_app, objs_app0]; done) | (simp only [keeps_cons, keeps_none, objs_app0, objs_app, and_true]; first | rfl | exact ⟨rfl, rfl⟩ | exact ⟨rfl, rfl, rfl⟩))) | (refine both_ways ?_ ?_) | (rw [wrap_i64 (by omega) (by omega)]) | (refine guardV_split (fun h => ?_) (fun h => ?_) <;> (try rw [h]) <;> (try simp at h) <;> (try (exfalso; omega))))
  refine awp_rounds (fun (i : Nat) τ s' => i ≤ l.length ∧ RB σ0 s' k (bprune B o (l.take i)).1 F ∧ τ 0 = .ptr (some (k, [])) ∧ τ 1 = .int .i64 o ∧ τ 2 = .slice tl (l.map (AV.int .i64)) ∧ τ 7 = .int .i64 (bprune B o (l.take i)).2 ∧ τ 8 = .int .i64 i) (fun i => l.length - i) 0 ?_ ?_
  · refine ⟨by omega, h, ?_, ?_, ?_, ?_, ?_⟩ <;> (try simp only [go_sem]) <;> (try rfl)
  · rintro i τ s' ⟨hi, hT, t0, t1, t2, t7, t8⟩
    have hBi := hB.prune_take o l i hi
    have hle := prune_le (B := B) (o := o) i hi
    by_cases hlt : i < l.length
    · have hlt1 : (i : Int) < l.length := by omega
      have hp : l[i]? = some l[i] := List.getElem?_eq_getElem hlt
      generalize l[i] = n at hp
      have hnx := bprune_next (B := B) (o := o) hp
      generalize hC : bprune B o (l.take i) = C at *
      obtain ⟨C, c⟩ := C
      simp only at hT hBi hle hnx t7
      obtain ⟨tk, ho⟩ := hT.o
      have cj := cellAt_known ho
      have hlen2 := hBi.len
      have w1 : IntKind.i64.wrap ((c : Int) + 1) = ((c + 1 : Nat) : Int) := by rw [wrap_i64 (by omega) (by omega)]; simp
      cases hf : bfind C o n with
      | some q =>
        obtain ⟨b, hb, _⟩ := bfind_some hf
        have hq := (List.getElem?_eq_some_iff.1 hb).1
        have h1 : bprune1 C o n = (C.eraseIdx q, 1) := by unfold bprune1; rw [hf]
        have hat : batI C o n = q := by unfold batI; rw [hf]
        rw [h1] at hnx
        have w2 : IntKind.i64.wrap ((q : Int) + 1) = (q : Int) + 1 := wrap_i64 (by omega) (by omega)
        repeat' (first | (simp -dsimp only [↓reduceIte, go_sem, cj, ho, t0, t1, t2, t7, t8, hlt1, w1, w2, hat, cellAt_growS, objs_growSB]) | (refine arr_intro fun _ => ?_) | (refine later_intro ⟨keeps_nil, ?_⟩) | (refine later_intro ⟨keeps_refl, ?_⟩) | (with_reducible refine keeps_go ?_ ?_; focus (first | (simp [keeps_cons, keeps_none, objs_app, objs_app0]; done) | (simp only [keeps_cons, keeps_none, objs_app0, objs_app, and_true]; first | rfl | exact ⟨rfl, rfl⟩ | exact ⟨rfl, rfl, rfl⟩))) | (with_reducible refine (And.intro (a := keeps _ _ _) ?_ ?_); focus (first | (simp [keeps_cons, keeps_none, objs_app, objs_app0]; done) | (simp only [keeps_cons, keeps_none, objs_app0, objs_app, and_true]; first | rfl | exact ⟨rfl, rfl⟩ | exact ⟨rfl, rfl, rfl⟩))) | (refine both_ways ?_ ?_) | (rw [wrap_i64 (by omega) (by omega)]) | (refine guardV_split (fun h => ?_) (fun h => ?_) <;> (try rw [h]) <;> (try simp at h) <;> (try (exfalso; omega))) | ((refine rat_c hT hBi ?_)) | (with_reducible refine awp_drawU (id := 7) (.op 0 0 (.op 1 2 (.op 2 2 (.op 3 2 (.op 4 2 (.op 5 2 (.op 6 2 (.op 7 2 (.op 9 0 (.op 10 0 (.op 11 0 (.op 12 0 (.op 13 0 (.op 14 0 (.op 15 0 (.op 8 1 (.op 16 1 (.cut (.op 17 2 (.op 18 2 (.op 19 1 .nil))))))))))))))))))))) (by kernel_rfl) ?_) | (refine nth_get hp ?_) | (refine build_slice E43 rfl (by decide) (by intro v hv; simp at hv) ?_) | (refine hi_blobs (by omega) fun t => ?_) | (refine lo_blobs (by omega) fun t => ?_) | (refine append_bnone (by simp; omega) ?_) | (refine append_blobs canGrow (by simp; omega) ?_))
        refine later_intro ⟨i + 1, by omega, by omega, ?_, ?_, ?_, ?_, ?_, ?_⟩ <;> (try simp only [go_sem, t0, t1, t2, t7, t8, hnx]) <;> (try rfl)
        rw [growFull, ← take_eraseB]
        exact hT.store
      | none =>
        have h1 : bprune1 C o n = (C, 0) := by unfold bprune1; rw [hf]
        have hat : batI C o n = -1 := by unfold batI; rw [hf]
        rw [h1] at hnx
        repeat' (first | (simp -dsimp only [↓reduceIte, go_sem, cj, t0, t1, t2, t7, t8, hlt1, hat]) | (refine arr_intro fun _ => ?_) | (refine later_intro ⟨keeps_nil, ?_⟩) | (refine later_intro ⟨keeps_refl, ?_⟩) | (with_reducible refine keeps_go ?_ ?_; focus (first | (simp [keeps_cons, keeps_none, objs_app, objs_app0]; done) | (simp only [keeps_cons, keeps_none, objs_app0, objs_app, and_true]; first | rfl | exact ⟨rfl, rfl⟩ | exact ⟨rfl, rfl, rfl⟩))) | (with_reducible refine (And.intro (a := keeps _ _ _) ?_ ?_); focus (first | (simp [keeps_cons, keeps_none, objs_app, objs_app0]; done) | (simp only [keeps_cons, keeps_none, objs_app0, objs_app, and_true]; first | rfl | exact ⟨rfl, rfl⟩ | exact ⟨rfl, rfl, rfl⟩))) | (refine both_ways ?_ ?_) | (rw [wrap_i64 (by omega) (by omega)]) | (refine guardV_split (fun h => ?_) (fun h => ?_) <;> (try rw [h]) <;> (try simp at h) <;> (try (exfalso; omega))) | ((refine rat_c hT hBi ?_)) | (refine nth_get hp ?_))
        refine later_intro ⟨i + 1, by omega, by omega, ?_, ?_, ?_, ?_, ?_, ?_⟩ <;> (try simp only [go_sem, t0, t1, t2, t7, t8, hnx]) <;> (try rfl)
        exact hT
    · obtain rfl : i = l.length := by omega
      have hlt1 : ¬ ((l.length : Nat) : Int) < l.length := by omega
      rw [List.take_length] at hT t7
      repeat' (first | (simp -dsimp only [↓reduceIte, go_sem, t0, t1, t2, t7, t8, hlt1]) | (refine arr_intro fun _ => ?_) | (refine later_intro ⟨keeps_nil, ?_⟩) | (refine later_intro ⟨keeps_refl, ?_⟩) | (with_reducible refine keeps_go ?_ ?_; focus (first | (simp [keeps_cons, keeps_none, objs_app, objs_app0]; done) | (simp only [keeps_cons, keeps_none, objs_app0, objs_app, and_true]; first | rfl | exact ⟨rfl, rfl⟩ | exact ⟨rfl, rfl, rfl⟩))) | (with_reducible refine (And.intro (a := keeps _ _ _) ?_ ?_); focus (first | (simp [keeps_cons, keeps_none, objs_app, objs_app0]; done) | (simp only [keeps_cons, keeps_none, objs_app0, objs_app, and_true]; first | rfl | exact ⟨rfl, rfl⟩ | exact ⟨rfl, rfl, rfl⟩))) | (refine both_ways ?_ ?_) | (rw [wrap_i64 (by omega) (by omega)]) | (refine guardV_split (fun h => ?_) (fun h => ?_) <;> (try rw [h]) <;> (try simp at h) <;> (try (exfalso; omega))))
      exact hK _ hT
end
end Go.Aff.L10

