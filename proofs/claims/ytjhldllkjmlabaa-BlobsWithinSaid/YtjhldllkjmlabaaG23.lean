import Derived.Test.YtjhldllkjmlabaaG22

set_option linter.unusedSimpArgs false
set_option linter.unusedVariables false

/- Layer 11, walked: Prune. -/
-- cuts
namespace Go.Aff.L10
open Go.Proofs Go.Aff Go.Aff.L01 Classical
set_option linter.unusedVariables false
set_option linter.unusedSimpArgs false
set_option maxRecDepth 20000
attribute [local go_sem] push_app app_app length_app cellAt_app cellAt_app0 set_app set_app0 objs_app objs_app0 List.cons_append List.nil_append List.length_cons List.length_nil List.getElem?_cons_zero List.getElem?_cons_succ List.set_cons_zero List.set_cons_succ List.length_map
attribute [-go_sem] cellAt_new
attribute [-simp] List.length_flatMap
attribute [local go_sem] Try.underlying3 Try.underlying4 Try.underlying5 Try.underlying9 Try.underlying24 Try.underlying43 Try.underlying37 Try.underlying22 Try.underlying32 blobPs_0 blobAt_0 blobSet_0 blobPs_1 blobAt_1 blobSet_1 blobPs_2 blobAt_2 blobSet_2 blobPs_3 blobAt_3 blobSet_3 sizes_blob shapes_blob fits_blob zero_blob zt_blob built_blob Try.underlying26 bkeyPs_0 bkeyAt_0 bkeySet_0 bkeyPs_1 bkeyAt_1 bkeySet_1 sizes_bkey shapes_bkey fits_bkey zero_bkey zt_bkey built_bkey Try.underlying56 rstPs_0 rstAt_0 rstSet_0 sizes_rst shapes_rst fits_rst zero_rst zt_rst built_rst Try.underlying45 actPs_0 actAt_0 actSet_0 actPs_1 actAt_1 actSet_1 actPs_2 actAt_2 actSet_2 actPs_3 actAt_3 actSet_3 actPs_4 actAt_4 actSet_4 sizes_act shapes_act fits_act zero_act zt_act built_act Try.underlying42
attribute [local go_sem] fits3 fits4 fits5 fits9 fits23 fits26 fits31 fits34 zt3 zero3 bin_blob_eql bin_blob_neq
attribute [local go_sem ↓] blockQ_exit2
attribute [local simp] dig_ext
attribute [local go_sem] fits58 stAt zero60 zt60 built60 fits60 shape_mp Try.underlying58 Try.underlying60 Try.underlying27 Try.underlying28
attribute [local go_sem] fits_bkey zero_bkey zt_bkey built_bkey
section
variable {σ0 s : AST} {j mi : Nat} {B : List Blob} {F : List (Nat × AObj)} {K : AV → AST → Prop}
theorem sprune_nil {σ : AST} {o : Int} {l : AV} {K : AV → AST → Prop} (hK : K (.int .i64 0) σ) : TCalls Try.prog 12 [.ptr none, .int .i64 o, l] σ K := by
  refine tcalls_walk Try.f12 _ [.tmp 6] Try.func12 rfl rfl rfl mixed (Nat.le_of_ble_eq_true rfl) rfl fun hlen => ?_
  repeat' (first | (simp -dsimp only [↓reduceIte, go_sem]) | (refine arr_intro fun _ => ?_) | (refine later_intro ⟨keeps_nil, ?_⟩) | (refine later_intro ⟨keeps_refl, ?_⟩) | (with_reducible refine keeps_go ?_ ?_; focus (first | (simp [keeps_cons, keeps_none, objs_app, objs_app0]; done) | (simp only [keeps_cons, keeps_none, objs_app0, objs_app, and_true]; first | rfl | exact ⟨rfl, rfl⟩ | exact ⟨rfl, rfl, rfl⟩))) | (with_reducible refine (And.intro (a := keeps _ _ _) ?_ ?_); focus (first | (simp [keeps_cons, keeps_none, objs_app, objs_app0]; done) | (simp only [keeps_cons, keeps_none, objs_app0, objs_app, and_true]; first | rfl | exact ⟨rfl, rfl⟩ | exact ⟨rfl, rfl, rfl⟩))) | (refine both_ways ?_ ?_) | (rw [wrap_i64 (by omega) (by omega)]) | (refine guardV_split (fun h => ?_) (fun h => ?_) <;> (try rw [h]) <;> (try simp at h) <;> (try (exfalso; omega))))
  exact hK
theorem sprune_c (h : SF σ0 s j mi B F) (hB : BOk B) {o : Int} {tl : Tk} {l : List Int} (hK : ∀ s', SF σ0 s' j mi (bprune B o l).1 F → K (.int .i64 (bprune B o l).2) s') : TCalls Try.prog 12 [.ptr (some (j, [])), .int .i64 o, .slice tl (l.map (AV.int .i64))] s K := by
  refine tcalls_walk Try.f12 _ [.tmp 6] Try.func12 rfl rfl rfl mixed (Nat.le_of_ble_eq_true rfl) rfl fun hlen => ?_
  have hll : l.length ≤ 9223372036854775807 := by
    have := hlen (.slice tl (l.map (AV.int .i64))) (by simp)
    simp only [lenOk, List.length_map, maxL] at this; exact this
  repeat' (first | (simp -dsimp only [↓reduceIte, go_sem]) | (refine arr_intro fun _ => ?_) | (refine later_intro ⟨keeps_nil, ?_⟩) | (refine later_intro ⟨keeps_refl, ?_⟩) | (with_reducible refine keeps_go ?_ ?_; focus (first | (simp [keeps_cons, keeps_none, objs_app, objs_app0]; done) | (simp only [keeps_cons, keeps_none, objs_app0, objs_app, and_true]; first | rfl | exact ⟨rfl, rfl⟩ | exact ⟨rfl, rfl, rfl⟩))) | (with_reducible refine (And.intro (a := keeps _ _ _) ?_ ?_); focus (first | (simp [keeps_cons, keeps_none, objs_app, objs_app0]; done) | (simp only [keeps_cons, keeps_none, objs_app0, objs_app, and_true]; first | rfl | exact ⟨rfl, rfl⟩ | exact ⟨rfl, rfl, rfl⟩))) | (refine both_ways ?_ ?_) | (rw [wrap_i64 (by omega) (by omega)]) | (refine guardV_split (fun h => ?_) (fun h => ?_) <;> (try rw [h]) <;> (try simp at h) <;> (try (exfalso; omega))))
  refine awp_rounds (fun (i : Nat) τ s' => i ≤ l.length ∧ SF σ0 s' j mi (bprune B o (l.take i)).1 F ∧ τ 0 = .ptr (some (j, [])) ∧ τ 1 = .int .i64 o ∧ τ 7 = .int .i64 (bprune B o (l.take i)).2 ∧ τ 16 = .slice tl (l.map (AV.int .i64)) ∧ τ 17 = .int .i64 l.length ∧ τ 18 = .int .i64 i) (fun i => l.length - i) 0 ?_ ?_
  · refine ⟨by omega, h, ?_, ?_, ?_, ?_, ?_, ?_⟩ <;> (try simp only [go_sem]) <;> (try rfl)
  · rintro i τ s' ⟨hi, hT, t0, t1, t7, t16, t17, t18⟩
    have hBi := hB.prune_take o l i hi
    have hle := prune_le (B := B) (o := o) i hi
    by_cases hlt : i < l.length
    · have hlt1 : (i : Int) < l.length := by omega
      have hp : l[i]? = some l[i] := List.getElem?_eq_getElem hlt
      generalize l[i] = n at hp
      have hnx := bprune_next (B := B) (o := o) hp
      generalize hC : bprune B o (l.take i) = C at *
      obtain ⟨C, c⟩ := C
      simp only at hT hBi hle hnx t7
      have hA := fun l => hT.ext (Ext.app s' l)
      have oA := fun l => (hA l).o
      have cj := fun l => cellAt_known (oA l)
      obtain ⟨E, ck, hE, hm, hck, hnd⟩ := hT.om
      have mA := fun l => objs_known_app hm l
      have hjl := hT.lt
      have w1 : IntKind.i64.wrap ((c : Int) + 1) = ((c + 1 : Nat) : Int) := by rw [wrap_i64 (by omega) (by omega)]; simp
      cases hf : bfind C o n with
      | some k =>
        obtain ⟨b, hb, _⟩ := bfind_some hf
        have h1 : bprune1 C o n = (C.eraseIdx k, 1) := by unfold bprune1; rw [hf]
        rw [h1] at hnx
        have hne : ∀ L, SF σ0 ((s'.app L).set mi (.map ((E.eraseIdx k).map entB) ck)) j mi (C.eraseIdx k) F := fun L => by
          have := (hA L).put (E := E.eraseIdx k) (ck := ck) (fun e he => hck e (List.mem_of_mem_eraseIdx he)) (by
            have e0 : (E.eraseIdx k).map (·.1) = (E.map (·.1)).eraseIdx k := by rw [List.eraseIdx_eq_take_drop_succ, List.eraseIdx_eq_take_drop_succ, List.map_append, List.map_take, List.map_drop]
            rw [e0]; exact hnd.sublist (List.eraseIdx_sublist ..))
          have e1 : (E.eraseIdx k).map (·.2) = C.eraseIdx k := by rw [List.eraseIdx_eq_take_drop_succ, List.map_append, List.map_take, List.map_drop, hE, ← List.eraseIdx_eq_take_drop_succ]
          rwa [e1] at this
        rw [← hE] at hf hb
        repeat' (first | (simp -dsimp only [↓reduceIte, go_sem, cj, t0, t1, t7, t16, t17, t18, hlt1, w1]) | (refine arr_intro fun _ => ?_) | (refine later_intro ⟨keeps_nil, ?_⟩) | (refine later_intro ⟨keeps_refl, ?_⟩) | (with_reducible refine keeps_go ?_ ?_; focus (first | (simp [keeps_cons, keeps_none, objs_app, objs_app0]; done) | (simp only [keeps_cons, keeps_none, objs_app0, objs_app, and_true]; first | rfl | exact ⟨rfl, rfl⟩ | exact ⟨rfl, rfl, rfl⟩))) | (with_reducible refine (And.intro (a := keeps _ _ _) ?_ ?_); focus (first | (simp [keeps_cons, keeps_none, objs_app, objs_app0]; done) | (simp only [keeps_cons, keeps_none, objs_app0, objs_app, and_true]; first | rfl | exact ⟨rfl, rfl⟩ | exact ⟨rfl, rfl, rfl⟩))) | (refine both_ways ?_ ?_) | (rw [wrap_i64 (by omega) (by omega)]) | (refine guardV_split (fun h => ?_) (fun h => ?_) <;> (try rw [h]) <;> (try simp at h) <;> (try (exfalso; omega))) | (with_reducible refine awp_drawU (id := 8) (.op 0 0 (.op 1 0 (.op 2 0 (.op 3 0 (.op 4 0 (.fork 5 (.op 5 1 (.op 6 0 (.op 7 0 (.op 8 0 (.op 9 1 (.op 10 1 (.op 11 2 .nil))))))) (.op 9 1 (.cut (.op 5 1 (.op 6 2 (.op 7 2 (.op 8 0 (.op 10 1 (.op 11 2 .nil)))))))))))))) (by kernel_rfl) ?_) | (with_reducible refine keeps_go ?_ ?_; focus (simp [keeps_cons, keeps_none, objs_app, objs_app0, oA]; done)) | (with_reducible refine (And.intro (a := keeps _ _ _) ?_ ?_); focus (simp [keeps_cons, keeps_none, objs_app, objs_app0, oA]; done)) | (with_reducible refine awp_drawT (id := 10) (.op 0 2 (.op 1 2 (.op 2 2 (.op 3 2 (.op 4 2 (.op 5 1 .nil)))))) (by kernel_rfl) ?_) | (refine nth_get hp ?_) | (refine lookupB_some (mA _) hf hb ?_) | (refine deleteB (mA _) hf ?_))
        all_goals (refine later_intro ⟨i + 1, by omega, by omega, ?_, ?_, ?_, ?_, ?_, ?_, ?_⟩ <;> (try simp only [go_sem, t0, t1, t7, t16, t17, t18, hnx]) <;> (try rfl))
        all_goals exact hne _
      | none =>
        have h1 : bprune1 C o n = (C, 0) := by unfold bprune1; rw [hf]
        rw [h1] at hnx
        rw [← hE] at hf
        repeat' (first | (simp -dsimp only [↓reduceIte, go_sem, cj, t0, t1, t7, t16, t17, t18, hlt1, w1]) | (refine arr_intro fun _ => ?_) | (refine later_intro ⟨keeps_nil, ?_⟩) | (refine later_intro ⟨keeps_refl, ?_⟩) | (with_reducible refine keeps_go ?_ ?_; focus (first | (simp [keeps_cons, keeps_none, objs_app, objs_app0]; done) | (simp only [keeps_cons, keeps_none, objs_app0, objs_app, and_true]; first | rfl | exact ⟨rfl, rfl⟩ | exact ⟨rfl, rfl, rfl⟩))) | (with_reducible refine (And.intro (a := keeps _ _ _) ?_ ?_); focus (first | (simp [keeps_cons, keeps_none, objs_app, objs_app0]; done) | (simp only [keeps_cons, keeps_none, objs_app0, objs_app, and_true]; first | rfl | exact ⟨rfl, rfl⟩ | exact ⟨rfl, rfl, rfl⟩))) | (refine both_ways ?_ ?_) | (rw [wrap_i64 (by omega) (by omega)]) | (refine guardV_split (fun h => ?_) (fun h => ?_) <;> (try rw [h]) <;> (try simp at h) <;> (try (exfalso; omega))) | (with_reducible refine awp_drawU (id := 8) (.op 0 0 (.op 1 0 (.op 2 0 (.op 3 0 (.op 4 0 (.fork 5 (.op 5 1 (.op 6 0 (.op 7 0 (.op 8 0 (.op 9 1 (.op 10 1 (.op 11 2 .nil))))))) (.op 9 1 (.cut (.op 5 1 (.op 6 2 (.op 7 2 (.op 8 0 (.op 10 1 (.op 11 2 .nil)))))))))))))) (by kernel_rfl) ?_) | (with_reducible refine keeps_go ?_ ?_; focus (simp [keeps_cons, keeps_none, objs_app, objs_app0, oA]; done)) | (with_reducible refine (And.intro (a := keeps _ _ _) ?_ ?_); focus (simp [keeps_cons, keeps_none, objs_app, objs_app0, oA]; done)) | (with_reducible refine awp_drawT (id := 10) (.op 0 2 (.op 1 2 (.op 2 2 (.op 3 2 (.op 4 2 (.op 5 1 .nil)))))) (by kernel_rfl) ?_) | (refine nth_get hp ?_) | (refine lookupB_none (mA _) hf ?_))
        all_goals (refine later_intro ⟨i + 1, by omega, by omega, ?_, ?_, ?_, ?_, ?_, ?_, ?_⟩ <;> (try simp only [go_sem, t0, t1, t7, t16, t17, t18, hnx]) <;> (try rfl))
        all_goals exact hA _
    · obtain rfl : i = l.length := by omega
      have hlt1 : ¬ ((l.length : Nat) : Int) < l.length := by omega
      rw [List.take_length] at hT t7
      repeat' (first | (simp -dsimp only [↓reduceIte, go_sem, t0, t1, t7, t16, t17, t18, hlt1]) | (refine arr_intro fun _ => ?_) | (refine later_intro ⟨keeps_nil, ?_⟩) | (refine later_intro ⟨keeps_refl, ?_⟩) | (with_reducible refine keeps_go ?_ ?_; focus (first | (simp [keeps_cons, keeps_none, objs_app, objs_app0]; done) | (simp only [keeps_cons, keeps_none, objs_app0, objs_app, and_true]; first | rfl | exact ⟨rfl, rfl⟩ | exact ⟨rfl, rfl, rfl⟩))) | (with_reducible refine (And.intro (a := keeps _ _ _) ?_ ?_); focus (first | (simp [keeps_cons, keeps_none, objs_app, objs_app0]; done) | (simp only [keeps_cons, keeps_none, objs_app0, objs_app, and_true]; first | rfl | exact ⟨rfl, rfl⟩ | exact ⟨rfl, rfl, rfl⟩))) | (refine both_ways ?_ ?_) | (rw [wrap_i64 (by omega) (by omega)]) | (refine guardV_split (fun h => ?_) (fun h => ?_) <;> (try rw [h]) <;> (try simp at h) <;> (try (exfalso; omega))))
      exact hK _ hT
end
end Go.Aff.L10

/- Layer 11, walked: the reference's store. -/
-- cuts
namespace Go.Aff.L10
open Go.Proofs Go.Aff Go.Aff.L01 Classical
set_option linter.unusedVariables false
set_option linter.unusedSimpArgs false
set_option maxRecDepth 20000
attribute [local go_sem] push_app app_app length_app cellAt_app cellAt_app0 set_app set_app0 objs_app objs_app0 List.cons_append List.nil_append List.length_cons List.length_nil List.getElem?_cons_zero List.getElem?_cons_succ List.set_cons_zero List.set_cons_succ List.length_map
attribute [-go_sem] cellAt_new
attribute [-simp] List.length_flatMap
attribute [local go_sem] Try.underlying3 Try.underlying4 Try.underlying5 Try.underlying9 Try.underlying24 Try.underlying43 Try.underlying37 Try.underlying22 Try.underlying32 blobPs_0 blobAt_0 blobSet_0 blobPs_1 blobAt_1 blobSet_1 blobPs_2 blobAt_2 blobSet_2 blobPs_3 blobAt_3 blobSet_3 sizes_blob shapes_blob fits_blob zero_blob zt_blob built_blob Try.underlying26 bkeyPs_0 bkeyAt_0 bkeySet_0 bkeyPs_1 bkeyAt_1 bkeySet_1 sizes_bkey shapes_bkey fits_bkey zero_bkey zt_bkey built_bkey Try.underlying56 rstPs_0 rstAt_0 rstSet_0 sizes_rst shapes_rst fits_rst zero_rst zt_rst built_rst Try.underlying45 actPs_0 actAt_0 actSet_0 actPs_1 actAt_1 actSet_1 actPs_2 actAt_2 actSet_2 actPs_3 actAt_3 actSet_3 actPs_4 actAt_4 actSet_4 sizes_act shapes_act fits_act zero_act zt_act built_act Try.underlying42
attribute [local go_sem] fits3 fits4 fits5 fits9 fits23 fits26 fits31 fits34 zt3 zero3 bin_blob_eql bin_blob_neq
attribute [local go_sem ↓] blockQ_exit2
attribute [local simp] dig_ext
attribute [local go_sem] fits58 stAt zero60 zt60 built60 fits60 shape_mp Try.underlying58 Try.underlying60 Try.underlying27 Try.underlying28
theorem E43 : ElemT Try.prog 43 26 35 64 := ⟨rfl, by kernel_rfl, by kernel_rfl, ⟨_, of_eq_true zt_blob⟩, by decide⟩
theorem size_blobs {l : List Blob} : ∀ v ∈ l.map blobV, v.size = 35 := by
  intro v hv; obtain ⟨x, _, rfl⟩ := List.mem_map.1 hv; simp only [AV.size, sizes_blob]
theorem append_blobs {a b : List Blob} {tk tk2 : Tk} {σ : AST} {K : AV → AST → Prop} (hca : canApp σ tk a.length 35) (hl : a.length + b.length ≤ 5000) (hK : K (.slice (growT σ tk) ((a ++ b).map blobV)) (growS σ tk (a.length + b.length) 35)) :
    appendW Try.prog ⟨[43, 43]⟩ (.slice tk (a.map blobV)) (.slice tk2 (b.map blobV)) σ K := by
  refine append_slice E43 rfl (by rw [List.length_map]; exact hca) size_blobs size_blobs (by simp; omega) (by simp [maxL]; omega) ?_
  simpa using hK
theorem append_bnone {b : List Blob} {tk2 : Tk} {σ : AST} {K : AV → AST → Prop} (hl : b.length ≤ 5000) (hK : K (.slice (growT σ .full) (b.map blobV)) (growS σ .full b.length 35)) :
    appendW Try.prog ⟨[43, 43]⟩ (.slice .full []) (.slice tk2 (b.map blobV)) σ K := append_blobs (a := []) trivial (by simpa using hl) (by simpa using hK)
theorem append_blob {a : List Blob} {x : Blob} {tk tk2 : Tk} {σ : AST} {K : AV → AST → Prop} (hca : canApp σ tk a.length 35) (hl : a.length ≤ 4999) (hK : K (.slice (growT σ tk) ((a ++ [x]).map blobV)) (growS σ tk (a.length + 1) 35)) :
    appendW Try.prog ⟨[43, 43]⟩ (.slice tk (a.map blobV)) (.slice tk2 [blobV x]) σ K := append_blobs (b := [x]) hca (by simp; omega) (by simpa using hK)
theorem hi_blobs {l : List Blob} {tk : Tk} {i : Nat} {KV : AV → Prop} (hi : i ≤ l.length) (h : ∀ t, KV (.slice t ((l.take i).map blobV))) : sliceW Try.prog 43 (.slice tk (l.map blobV)) none (some (.int .i64 i)) none KV :=
  slice_hi E43 ⟨_, Try.underlying26⟩ size_blobs (by simpa using hi) fun t => by rw [← List.map_take]; exact h t
theorem lo_blobs {l : List Blob} {tk : Tk} {i : Nat} {KV : AV → Prop} (hi : i + 1 ≤ l.length) (h : ∀ t, KV (.slice t ((l.drop (i + 1)).map blobV))) : sliceW Try.prog 43 (.slice tk (l.map blobV)) (some (.int .i64 ((i : Int) + 1))) none none KV := by
  have := slice_lo (P := Try.prog) (h := i + 1) (tk := tk) (q := .i64) (KV := KV) E43 ⟨_, Try.underlying26⟩ (size_blobs (l := l)) (by simpa using hi) fun t => by rw [← List.map_drop]; exact h t
  simpa using this
/-- The reference's store in memory, and what else is known of memory. -/
structure RB (σ0 s : AST) (k : Nat) (B : List Blob) (F : List (Nat × AObj)) : Prop where
  x : Ext σ0 s
  kn : σ0.objs.length ≤ k
  o : ∃ tk, s.objs[k]? = some (.cells (.agg (rstPs tk ⟨B⟩)))
  f : ∀ x ∈ F, x.1 ≠ k ∧ s.objs[x.1]? = some x.2
section
variable {σ0 s s2 : AST} {k : Nat} {B : List Blob} {F : List (Nat × AObj)} {K : AV → AST → Prop}
theorem RB.ext (h : RB σ0 s k B F) (e : Ext s s2) : RB σ0 s2 k B F := by
  obtain ⟨tk, o⟩ := h.o
  exact ⟨h.x.trans e, h.kn, ⟨tk, ext_knownB e o⟩, fun y hy => ⟨(h.f y hy).1, ext_knownB e (h.f y hy).2⟩⟩
theorem rused_c (h : RB σ0 s k B F) (hB : BOk B) {o : Int} (hK : K (.tuple [.int .i64 (usedN B o : Nat), .int .i64 (usedB B o : Nat)]) s) : TCalls Try.prog 19 [.ptr (some (k, [])), .int .i64 o] s K := by
  obtain ⟨tk, ho⟩ := h.o
  have ck := cellAt_known ho
  have hlen := hB.len
  refine tcalls_walk Try.f19 _ [.tmp 4, .tmp 5] Try.func19 rfl rfl rfl mixed (Nat.le_of_ble_eq_true rfl) rfl fun hlen => ?_
  repeat' (first | (simp -dsimp only [↓reduceIte, go_sem, ck]) | (refine arr_intro fun _ => ?_) | (refine later_intro ⟨keeps_nil, ?_⟩) | (refine later_intro ⟨keeps_refl, ?_⟩) | (with_reducible refine keeps_go ?_ ?_; focus (first | (simp [keeps_cons, keeps_none, objs_app, objs_app0]; done) | (simp only [keeps_cons, keeps_none, objs_app0, objs_app, and_true]; first | rfl | exact ⟨rfl, rfl⟩ | exact ⟨rfl, rfl, rfl⟩))) | (with_reducible refine (And.intro (a := keeps _ _ _) ?_ ?_); focus (first | (simp [keeps_cons, keeps_none, objs_app, objs_app0]; done) | (simp only [keeps_cons, keeps_none, objs_app0, objs_app, and_true]; first | rfl | exact ⟨rfl, rfl⟩ | exact ⟨rfl, rfl, rfl⟩))) | (refine both_ways ?_ ?_) | (rw [wrap_i64 (by omega) (by omega)]) | (refine guardV_split (fun h => ?_) (fun h => ?_) <;> (try rw [h]) <;> (try simp at h) <;> (try (exfalso; omega))))
  refine awp_rounds (fun (i : Nat) τ s' => s' = s ∧ i ≤ B.length ∧ τ 0 = .ptr (some (k, [])) ∧ τ 1 = .int .i64 o ∧ τ 6 = .int .i64 (usedN (B.take i) o : Nat) ∧ τ 7 = .int .i64 (usedB (B.take i) o : Nat) ∧ τ 8 = .int .i64 i) (fun i => B.length - i) 0 ?_ ?_
  · refine ⟨rfl, by omega, ?_, ?_, ?_, ?_, ?_⟩ <;> (try simp only [go_sem]) <;> (try rfl)
  · rintro i τ s' ⟨rfl, hi, t0, t1, t6, t7, t8⟩
    by_cases hlt : i < B.length
    · have hlt1 : (i : Int) < B.length := by omega
      have hb : B[i]? = some B[i] := List.getElem?_eq_getElem hlt
      have hbr := (hB.rt _ (List.mem_of_getElem? hb)).2.2.2.2
      generalize B[i] = b at hb hbr
      have hn := usedN_le (L := B.take i) (o := o)
      have hbb := usedB_le (L := B.take i) (o := o) fun x hx => hB.rt x (List.mem_of_mem_take hx)
      rw [List.length_take] at hn hbb
      have e : B.take (i + 1) = B.take i ++ [b] := by rw [List.take_add_one, hb]; rfl
      have w1 : IntKind.i64.wrap ((usedN (B.take i) o : Nat) + 1) = ((usedN (B.take i) o + 1 : Nat) : Int) := by rw [wrap_i64 (by omega) (by omega)]; simp
      have w2 : IntKind.i64.wrap ((usedB (B.take i) o : Nat) + (b.cipher.length : Nat)) = ((usedB (B.take i) o + b.cipher.length : Nat) : Int) := by rw [wrap_i64 (by omega) (by omega)]; simp
      by_cases ho : b.owner = o
      · have d1 : usedN (B.take (i + 1)) o = usedN (B.take i) o + 1 := by rw [e, usedN_app]; simp [usedN, ho]
        have d2 : usedB (B.take (i + 1)) o = usedB (B.take i) o + b.cipher.length := by rw [e, usedB_app]; simp [usedB, lenOf, ho]
        have hq : (b.owner == o) = true := by simp [ho]
        repeat' (first | (simp -dsimp only [↓reduceIte, go_sem, ck, t0, t1, t6, t7, t8, hlt1, hq, w1, w2]) | (refine arr_intro fun _ => ?_) | (refine later_intro ⟨keeps_nil, ?_⟩) | (refine later_intro ⟨keeps_refl, ?_⟩) | (with_reducible refine keeps_go ?_ ?_; focus (first | (simp [keeps_cons, keeps_none, objs_app, objs_app0]; done) | (simp only [keeps_cons, keeps_none, objs_app0, objs_app, and_true]; first | rfl | exact ⟨rfl, rfl⟩ | exact ⟨rfl, rfl, rfl⟩))) | (with_reducible refine (And.intro (a := keeps _ _ _) ?_ ?_); focus (first | (simp [keeps_cons, keeps_none, objs_app, objs_app0]; done) | (simp only [keeps_cons, keeps_none, objs_app0, objs_app, and_true]; first | rfl | exact ⟨rfl, rfl⟩ | exact ⟨rfl, rfl, rfl⟩))) | (refine both_ways ?_ ?_) | (rw [wrap_i64 (by omega) (by omega)]) | (refine guardV_split (fun h => ?_) (fun h => ?_) <;> (try rw [h]) <;> (try simp at h) <;> (try (exfalso; omega))) | (refine nth_get hb ?_))
        first
          | (refine later_intro ⟨i + 1, by omega, rfl, by omega, ?_, ?_, ?_, ?_, ?_⟩ <;> (try simp only [go_sem, t0, t1, t6, t7, t8, d1, d2]) <;> (try rfl))
          | (refine later_intro ⟨i + 1, by omega, ?_⟩; (try simp only [go_sem, t0, t1, t6, t7, t8, d1, d2]); (repeat' apply And.intro) <;> first | rfl | omega | assumption)
      · have d1 : usedN (B.take (i + 1)) o = usedN (B.take i) o := by rw [e, usedN_app]; simp [usedN, ho]
        have d2 : usedB (B.take (i + 1)) o = usedB (B.take i) o := by rw [e, usedB_app]; simp [usedB, lenOf, ho]
        have hq : (b.owner == o) = false := by simp [ho]
        repeat' (first | (simp -dsimp only [↓reduceIte, go_sem, ck, t0, t1, t6, t7, t8, hlt1, hq, w1, w2]) | (refine arr_intro fun _ => ?_) | (refine later_intro ⟨keeps_nil, ?_⟩) | (refine later_intro ⟨keeps_refl, ?_⟩) | (with_reducible refine keeps_go ?_ ?_; focus (first | (simp [keeps_cons, keeps_none, objs_app, objs_app0]; done) | (simp only [keeps_cons, keeps_none, objs_app0, objs_app, and_true]; first | rfl | exact ⟨rfl, rfl⟩ | exact ⟨rfl, rfl, rfl⟩))) | (with_reducible refine (And.intro (a := keeps _ _ _) ?_ ?_); focus (first | (simp [keeps_cons, keeps_none, objs_app, objs_app0]; done) | (simp only [keeps_cons, keeps_none, objs_app0, objs_app, and_true]; first | rfl | exact ⟨rfl, rfl⟩ | exact ⟨rfl, rfl, rfl⟩))) | (refine both_ways ?_ ?_) | (rw [wrap_i64 (by omega) (by omega)]) | (refine guardV_split (fun h => ?_) (fun h => ?_) <;> (try rw [h]) <;> (try simp at h) <;> (try (exfalso; omega))) | (refine nth_get hb ?_))
        first
          | (refine later_intro ⟨i + 1, by omega, rfl, by omega, ?_, ?_, ?_, ?_, ?_⟩ <;> (try simp only [go_sem, t0, t1, t6, t7, t8, d1, d2]) <;> (try rfl))
          | (refine later_intro ⟨i + 1, by omega, ?_⟩; (try simp only [go_sem, t0, t1, t6, t7, t8, d1, d2]); (repeat' apply And.intro) <;> first | rfl | omega | assumption)
    · obtain rfl : i = B.length := by omega
      have hlt1 : ¬ ((B.length : Nat) : Int) < B.length := by omega
      rw [List.take_length] at t6 t7
      repeat' (first | (simp -dsimp only [↓reduceIte, go_sem, ck, t0, t1, t6, t7, t8, hlt1]) | (refine arr_intro fun _ => ?_) | (refine later_intro ⟨keeps_nil, ?_⟩) | (refine later_intro ⟨keeps_refl, ?_⟩) | (with_reducible refine keeps_go ?_ ?_; focus (first | (simp [keeps_cons, keeps_none, objs_app, objs_app0]; done) | (simp only [keeps_cons, keeps_none, objs_app0, objs_app, and_true]; first | rfl | exact ⟨rfl, rfl⟩ | exact ⟨rfl, rfl, rfl⟩))) | (with_reducible refine (And.intro (a := keeps _ _ _) ?_ ?_); focus (first | (simp [keeps_cons, keeps_none, objs_app, objs_app0]; done) | (simp only [keeps_cons, keeps_none, objs_app0, objs_app, and_true]; first | rfl | exact ⟨rfl, rfl⟩ | exact ⟨rfl, rfl, rfl⟩))) | (refine both_ways ?_ ?_) | (rw [wrap_i64 (by omega) (by omega)]) | (refine guardV_split (fun h => ?_) (fun h => ?_) <;> (try rw [h]) <;> (try simp at h) <;> (try (exfalso; omega))))
      exact hK
/-- A blob's place; below 0: there is none. -/
noncomputable def batI (B : List Blob) (o n : Int) : Int := match bfind B o n with
  | some i => i
  | none => -1
theorem find_first {B : List Blob} {o n : Int} {i : Nat} {b : Blob} (hb : B[i]? = some b) (h1 : isB o n b = true) (h0 : ∀ x ∈ B.take i, isB o n x = false) : bfind B o n = some i := by
  unfold bfind
  rw [List.findIdx?_eq_some_iff_getElem]
  have hi := (List.getElem?_eq_some_iff.1 hb).1
  have he := (List.getElem?_eq_some_iff.1 hb).2
  refine ⟨hi, by rw [he]; exact h1, fun j hj => ?_⟩
  have : B[j] ∈ B.take i := List.mem_of_getElem? (i := j) (by rw [List.getElem?_take, if_pos hj]; exact List.getElem?_eq_getElem (by omega))
  simp [h0 _ this]
theorem rat_c (h : RB σ0 s k B F) (hB : BOk B) {o n : Int} (hK : K (.int .i64 (batI B o n)) s) : TCalls Try.prog 23 [.ptr (some (k, [])), .int .i64 o, .int .i64 n] s K := by
  obtain ⟨tk, ho⟩ := h.o
  have ck := cellAt_known ho
  have hlen := hB.len
  refine tcalls_walk Try.f23 _ [.tmp 6] Try.func23 rfl rfl rfl mixed (Nat.le_of_ble_eq_true rfl) rfl fun hlen => ?_
  repeat' (first | (simp -dsimp only [↓reduceIte, go_sem, ck]) | (refine arr_intro fun _ => ?_) | (refine later_intro ⟨keeps_nil, ?_⟩) | (refine later_intro ⟨keeps_refl, ?_⟩) | (with_reducible refine keeps_go ?_ ?_; focus (first | (simp [keeps_cons, keeps_none, objs_app, objs_app0]; done) | (simp only [keeps_cons, keeps_none, objs_app0, objs_app, and_true]; first | rfl | exact ⟨rfl, rfl⟩ | exact ⟨rfl, rfl, rfl⟩))) | (with_reducible refine (And.intro (a := keeps _ _ _) ?_ ?_); focus (first | (simp [keeps_cons, keeps_none, objs_app, objs_app0]; done) | (simp only [keeps_cons, keeps_none, objs_app0, objs_app, and_true]; first | rfl | exact ⟨rfl, rfl⟩ | exact ⟨rfl, rfl, rfl⟩))) | (refine both_ways ?_ ?_) | (rw [wrap_i64 (by omega) (by omega)]) | (refine guardV_split (fun h => ?_) (fun h => ?_) <;> (try rw [h]) <;> (try simp at h) <;> (try (exfalso; omega))))
  refine awp_rounds (fun (i : Nat) τ s' => s' = s ∧ i ≤ B.length ∧ (∀ x ∈ B.take i, isB o n x = false) ∧ τ 0 = .ptr (some (k, [])) ∧ τ 1 = .int .i64 o ∧ τ 2 = .int .i64 n ∧ τ 7 = .int .i64 i) (fun i => B.length - i) 0 ?_ ?_
  · refine ⟨rfl, by omega, by simp, ?_, ?_, ?_, ?_⟩ <;> (try simp only [go_sem]) <;> (try rfl)
  · rintro i τ s' ⟨rfl, hi, h0, t0, t1, t2, t7⟩
    by_cases hlt : i < B.length
    · have hlt1 : (i : Int) < B.length := by omega
      have hb : B[i]? = some B[i] := List.getElem?_eq_getElem hlt
      generalize B[i] = b at hb
      have e : B.take (i + 1) = B.take i ++ [b] := by rw [List.take_add_one, hb]; rfl
      by_cases hq : b.owner = o ∧ b.num = n
      · have hf := find_first hb (by simp [isB, hq]) h0
        have hat : batI B o n = i := by unfold batI; rw [hf]
        rw [hat] at hK
        have q1 : (b.owner == o) = true := by simp [hq.1]
        have q2 : (b.num == n) = true := by simp [hq.2]
        repeat' (first | (simp -dsimp only [↓reduceIte, go_sem, ck, t0, t1, t2, t7, hlt1, q1, q2]) | (refine arr_intro fun _ => ?_) | (refine later_intro ⟨keeps_nil, ?_⟩) | (refine later_intro ⟨keeps_refl, ?_⟩) | (with_reducible refine keeps_go ?_ ?_; focus (first | (simp [keeps_cons, keeps_none, objs_app, objs_app0]; done) | (simp only [keeps_cons, keeps_none, objs_app0, objs_app, and_true]; first | rfl | exact ⟨rfl, rfl⟩ | exact ⟨rfl, rfl, rfl⟩))) | (with_reducible refine (And.intro (a := keeps _ _ _) ?_ ?_); focus (first | (simp [keeps_cons, keeps_none, objs_app, objs_app0]; done) | (simp only [keeps_cons, keeps_none, objs_app0, objs_app, and_true]; first | rfl | exact ⟨rfl, rfl⟩ | exact ⟨rfl, rfl, rfl⟩))) | (refine both_ways ?_ ?_) | (rw [wrap_i64 (by omega) (by omega)]) | (refine guardV_split (fun h => ?_) (fun h => ?_) <;> (try rw [h]) <;> (try simp at h) <;> (try (exfalso; omega))) | (refine nth_get hb ?_))
        exact hK
      · have hf0 : ∀ x ∈ B.take (i + 1), isB o n x = false := fun x hx => by
          rw [e] at hx
          rcases List.mem_append.1 hx with hx | hx
          · exact h0 x hx
          · simp at hx; subst hx; simp only [isB, decide_eq_false_iff_not]; exact hq
        by_cases hq1 : b.owner = o
        · have q1 : (b.owner == o) = true := by simp [hq1]
          have q2 : (b.num == n) = false := by simp; exact fun e => hq ⟨hq1, e⟩
          repeat' (first | (simp -dsimp only [↓reduceIte, go_sem, ck, t0, t1, t2, t7, hlt1, q1, q2]) | (refine arr_intro fun _ => ?_) | (refine later_intro ⟨keeps_nil, ?_⟩) | (refine later_intro ⟨keeps_refl, ?_⟩) | (with_reducible refine keeps_go ?_ ?_; focus (first | (simp [keeps_cons, keeps_none, objs_app, objs_app0]; done) | (simp only [keeps_cons, keeps_none, objs_app0, objs_app, and_true]; first | rfl | exact ⟨rfl, rfl⟩ | exact ⟨rfl, rfl, rfl⟩))) | (with_reducible refine (And.intro (a := keeps _ _ _) ?_ ?_); focus (first | (simp [keeps_cons, keeps_none, objs_app, objs_app0]; done) | (simp only [keeps_cons, keeps_none, objs_app0, objs_app, and_true]; first | rfl | exact ⟨rfl, rfl⟩ | exact ⟨rfl, rfl, rfl⟩))) | (refine both_ways ?_ ?_) | (rw [wrap_i64 (by omega) (by omega)]) | (refine guardV_split (fun h => ?_) (fun h => ?_) <;> (try rw [h]) <;> (try simp at h) <;> (try (exfalso; omega))) | (refine nth_get hb ?_))
          first
            | (refine later_intro ⟨i + 1, by omega, rfl, by omega, hf0, ?_, ?_, ?_, ?_⟩ <;> (try simp only [go_sem, t0, t1, t2, t7]) <;> (try rfl))
            | (refine later_intro ⟨i + 1, by omega, ?_⟩; (try simp only [go_sem, t0, t1, t2, t7]); (repeat' apply And.intro) <;> first | rfl | omega | assumption)
        · have q1 : (b.owner == o) = false := by simp [hq1]
          repeat' (first | (simp -dsimp only [↓reduceIte, go_sem, ck, t0, t1, t2, t7, hlt1, q1]) | (refine arr_intro fun _ => ?_) | (refine later_intro ⟨keeps_nil, ?_⟩) | (refine later_intro ⟨keeps_refl, ?_⟩) | (with_reducible refine keeps_go ?_ ?_; focus (first | (simp [keeps_cons, keeps_none, objs_app, objs_app0]; done) | (simp only [keeps_cons, keeps_none, objs_app0, objs_app, and_true]; first | rfl | exact ⟨rfl, rfl⟩ | exact ⟨rfl, rfl, rfl⟩))) | (with_reducible refine (And.intro (a := keeps _ _ _) ?_ ?_); focus (first | (simp [keeps_cons, keeps_none, objs_app, objs_app0]; done) | (simp only [keeps_cons, keeps_none, objs_app0, objs_app, and_true]; first | rfl | exact ⟨rfl, rfl⟩ | exact ⟨rfl, rfl, rfl⟩))) | (refine both_ways ?_ ?_) | (rw [wrap_i64 (by omega) (by omega)]) | (refine guardV_split (fun h => ?_) (fun h => ?_) <;> (try rw [h]) <;> (try simp at h) <;> (try (exfalso; omega))) | (refine nth_get hb ?_))
          first
            | (refine later_intro ⟨i + 1, by omega, rfl, by omega, hf0, ?_, ?_, ?_, ?_⟩ <;> (try simp only [go_sem, t0, t1, t2, t7]) <;> (try rfl))
            | (refine later_intro ⟨i + 1, by omega, ?_⟩; (try simp only [go_sem, t0, t1, t2, t7]); (repeat' apply And.intro) <;> first | rfl | omega | assumption)
    · obtain rfl : i = B.length := by omega
      have hlt1 : ¬ ((B.length : Nat) : Int) < B.length := by omega
      rw [List.take_length] at h0
      have hat : batI B o n = -1 := by
        unfold batI
        have : bfind B o n = none := by unfold bfind; rw [List.findIdx?_eq_none_iff]; exact h0
        rw [this]
      rw [hat] at hK
      repeat' (first | (simp -dsimp only [↓reduceIte, go_sem, ck, t0, t1, t2, t7, hlt1]) | (refine arr_intro fun _ => ?_) | (refine later_intro ⟨keeps_nil, ?_⟩) | (refine later_intro ⟨keeps_refl, ?_⟩) | (with_reducible refine keeps_go ?_ ?_; focus (first | (simp [keeps_cons, keeps_none, objs_app, objs_app0]; done) | (simp only [keeps_cons, keeps_none, objs_app0, objs_app, and_true]; first | rfl | exact ⟨rfl, rfl⟩ | exact ⟨rfl, rfl, rfl⟩))) | (with_reducible refine (And.intro (a := keeps _ _ _) ?_ ?_); focus (first | (simp [keeps_cons, keeps_none, objs_app, objs_app0]; done) | (simp only [keeps_cons, keeps_none, objs_app0, objs_app, and_true]; first | rfl | exact ⟨rfl, rfl⟩ | exact ⟨rfl, rfl, rfl⟩))) | (refine both_ways ?_ ?_) | (rw [wrap_i64 (by omega) (by omega)]) | (refine guardV_split (fun h => ?_) (fun h => ?_) <;> (try rw [h]) <;> (try simp at h) <;> (try (exfalso; omega))))
      exact hK
end
end Go.Aff.L10

