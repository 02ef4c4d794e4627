import Derived.Test.YtjhldllkjmlabaaG27

set_option linter.unusedSimpArgs false
set_option linter.unusedVariables false

/- Layer 11: the reference's numbers; walked. -/
-- cuts
namespace Go.Aff.L10
open Go.Proofs Go.Aff Go.Aff.L01 Classical
set_option linter.unusedVariables false
set_option linter.unusedSimpArgs false
set_option maxRecDepth 20000
attribute [local go_sem] push_app app_app length_app cellAt_app cellAt_app0 set_app set_app0 objs_app objs_app0 List.cons_append List.nil_append List.length_cons List.length_nil List.getElem?_cons_zero List.getElem?_cons_succ List.set_cons_zero List.set_cons_succ List.length_map
attribute [-go_sem] cellAt_new
attribute [-simp] List.length_flatMap
attribute [local go_sem] Try.underlying3 Try.underlying4 Try.underlying5 Try.underlying9 Try.underlying24 Try.underlying43 Try.underlying37 Try.underlying22 Try.underlying32 blobPs_0 blobAt_0 blobSet_0 blobPs_1 blobAt_1 blobSet_1 blobPs_2 blobAt_2 blobSet_2 blobPs_3 blobAt_3 blobSet_3 sizes_blob shapes_blob fits_blob zero_blob zt_blob built_blob Try.underlying26 bkeyPs_0 bkeyAt_0 bkeySet_0 bkeyPs_1 bkeyAt_1 bkeySet_1 sizes_bkey shapes_bkey fits_bkey zero_bkey zt_bkey built_bkey Try.underlying56 rstPs_0 rstAt_0 rstSet_0 sizes_rst shapes_rst fits_rst zero_rst zt_rst built_rst Try.underlying45 actPs_0 actAt_0 actSet_0 actPs_1 actAt_1 actSet_1 actPs_2 actAt_2 actSet_2 actPs_3 actAt_3 actSet_3 actPs_4 actAt_4 actSet_4 sizes_act shapes_act fits_act zero_act zt_act built_act Try.underlying42
attribute [local go_sem] fits3 fits4 fits5 fits9 fits23 fits26 fits31 fits34 zt3 zero3 bin_blob_eql bin_blob_neq
attribute [local go_sem ↓] blockQ_exit2
attribute [local simp] dig_ext
attribute [local go_sem] fits58 stAt zero60 zt60 built60 fits60 shape_mp Try.underlying58 Try.underlying60 Try.underlying27 Try.underlying28
theorem nums_ins {A : List Blob} {o : Int} {b : Blob} {p : Nat} {L : List Int} (hL : L = numsB A o) (hb : b.owner = o) (h1 : ∀ (j : Nat) y, j < p → L[j]? = some y → y < b.num) (h2 : ∀ y, L[p]? = some y → ¬ y < b.num) :
    numsB (A ++ [b]) o = L.take p ++ b.num :: L.drop p := by
  have hs : L.Pairwise (· ≤ ·) := hL ▸ numsB_sorted
  have hd : ∀ y ∈ L.drop p, b.num ≤ y := by
    intro y hy
    obtain ⟨q, hq⟩ := List.mem_iff_getElem?.1 hy
    rw [List.getElem?_drop] at hq
    have hlt := (List.getElem?_eq_some_iff.1 hq).1
    have hpl : p < L.length := by omega
    have h3 := h2 L[p] (List.getElem?_eq_getElem hpl)
    have h4 : L[p] ≤ y := by
      have hyq := (List.getElem?_eq_some_iff.1 hq).2
      by_cases e : q = 0
      · subst e; simp only [Nat.add_zero] at hyq; omega
      · rw [← hyq]; exact List.pairwise_iff_getElem.1 hs p (p + q) hpl hlt (by omega)
    omega
  have ht : ∀ y ∈ L.take p, y < b.num := by
    intro y hy
    obtain ⟨q, hq⟩ := List.mem_iff_getElem?.1 hy
    rw [List.getElem?_take] at hq
    split at hq
    · exact h1 q y (by assumption) hq
    · cases hq
  refine sorted_unique numsB_sorted ?_ ?_
  · rw [List.pairwise_append, List.pairwise_cons]
    refine ⟨hs.sublist (List.take_sublist ..), ⟨hd, hs.sublist (List.drop_sublist ..)⟩, fun a ha c hc => ?_⟩
    have := ht a ha
    rcases List.mem_cons.1 hc with rfl | hc
    · omega
    · have := hd c hc; omega
  · refine numsB_perm'.trans ?_
    rw [numsU_app]
    have e : numsU [b] o = [b.num] := by simp [numsU, hb]
    rw [e]
    refine (List.Perm.append_right _ (numsB_perm' (B := A) (o := o)).symm).trans ?_
    rw [← hL]
    refine List.perm_append_comm.trans ?_
    conv => lhs; rw [← List.take_append_drop p L]
    simpa using (List.perm_middle (a := b.num) (l₁ := L.take p) (l₂ := L.drop p)).symm
theorem nums_skip {A : List Blob} {o : Int} {b : Blob} (hb : b.owner ≠ o) : numsB (A ++ [b]) o = numsB A o := by
  unfold numsB; rw [numsU_app]; simp [numsU, hb]
theorem size_ints {l : List Int} : ∀ v ∈ l.map (AV.int .i64), v.size = 1 := by
  intro v hv; obtain ⟨x, _, rfl⟩ := List.mem_map.1 hv; rfl
theorem append_ints {a b : List Int} {tk tk2 : Tk} {σ : AST} {K : AV → AST → Prop} (hca : canApp σ tk a.length 1) (hl : a.length + b.length ≤ 5000) (hK : K (.slice (growT σ tk) ((a ++ b).map (AV.int .i64))) (growS σ tk (a.length + b.length) 1)) :
    appendW Try.prog ⟨[37, 37]⟩ (.slice tk (a.map (AV.int .i64))) (.slice tk2 (b.map (AV.int .i64))) σ K := by
  refine append_slice E37 rfl (by rw [List.length_map]; exact hca) size_ints size_ints (by simp; omega) (by simp [maxL]; omega) ?_
  simpa using hK
theorem append_inone {b : List Int} {tk2 : Tk} {σ : AST} {K : AV → AST → Prop} (hl : b.length ≤ 5000) (hK : K (.slice (growT σ .full) (b.map (AV.int .i64))) (growS σ .full b.length 1)) :
    appendW Try.prog ⟨[37, 37]⟩ (.slice .full []) (.slice tk2 (b.map (AV.int .i64))) σ K := append_ints (a := []) trivial (by simpa using hl) (by simpa using hK)
theorem append_int1 {a : List Int} {x : Int} {tk tk2 : Tk} {σ : AST} {K : AV → AST → Prop} (hca : canApp σ tk a.length 1) (hl : a.length ≤ 4999) (hK : K (.slice (growT σ tk) ((a ++ [x]).map (AV.int .i64))) (growS σ tk (a.length + 1) 1)) :
    appendW Try.prog ⟨[37, 37]⟩ (.slice tk (a.map (AV.int .i64))) (.slice tk2 [.int .i64 x]) σ K := append_ints (b := [x]) hca (by simp; omega) (by simpa using hK)
theorem canGrow2 {σ : AST} {n m es : Nat} : canApp (growS (growS σ .full n es) (growT σ .full) m es) (growT (growS σ .full n es) (growT σ .full)) m es := canApp_grow canGrow
theorem hi_nums {l : List Int} {tk : Tk} {i : Nat} {KV : AV → Prop} (hi : i ≤ l.length) (h : ∀ t, KV (.slice t ((l.take i).map (AV.int .i64)))) : sliceW Try.prog 37 (.slice tk (l.map (AV.int .i64))) none (some (.int .i64 i)) none KV :=
  slice_hi E37 ⟨_, Try.underlying3⟩ size_ints (by simpa using hi) fun t => by rw [← List.map_take]; exact h t
theorem lo_nums {l : List Int} {tk : Tk} {i : Nat} {KV : AV → Prop} (hi : i ≤ l.length) (h : ∀ t, KV (.slice t ((l.drop i).map (AV.int .i64)))) : sliceW Try.prog 37 (.slice tk (l.map (AV.int .i64))) (some (.int .i64 i)) none none KV :=
  slice_lo E37 ⟨_, Try.underlying3⟩ size_ints (by simpa using hi) fun t => by rw [← List.map_drop]; exact h t
theorem _root_.Go.Aff.Ext.grow2 {σ σ' : AST} (h : Ext σ σ') {a b c d : Nat} : Ext σ (growS (growS (growS σ' .full a d) (growT σ' .full) b d) (growT (growS σ' .full a d) (growT σ' .full)) c d) := by
  rw [growT_growS, growFull, growFull]; exact h.trans (Ext.growFull _ _ _)
section
variable {σ0 s s2 : AST} {k : Nat} {B : List Blob} {F : List (Nat × AObj)} {K : AV → AST → Prop}
theorem rnum_c (h : RB σ0 s k B F) (hB : BOk B) {o : Int} (hK : ∀ s' tk, Ext s s' → K (.slice tk ((numsB B o).map (AV.int .i64))) s') : TCalls Try.prog 21 [.ptr (some (k, [])), .int .i64 o] s K := by
  have hlen := hB.len
  refine tcalls_walk Try.f21 _ [.tmp 4] Try.func21 rfl rfl rfl mixed (Nat.le_of_ble_eq_true rfl) rfl fun hlen => ?_
  repeat' (first | (simp -dsimp only [↓reduceIte, go_sem]) | (refine arr_intro fun _ => ?_) | (refine later_intro ⟨keeps_nil, ?_⟩) | (refine later_intro ⟨keeps_refl, ?_⟩) | (with_reducible refine keeps_go ?_ ?_; focus (first | (simp [keeps_cons, keeps_none, objs_app, objs_app0]; done) | (simp only [keeps_cons, keeps_none, objs_app0, objs_app, and_true]; first | rfl | exact ⟨rfl, rfl⟩ | exact ⟨rfl, rfl, rfl⟩))) | (with_reducible refine (And.intro (a := keeps _ _ _) ?_ ?_); focus (first | (simp [keeps_cons, keeps_none, objs_app, objs_app0]; done) | (simp only [keeps_cons, keeps_none, objs_app0, objs_app, and_true]; first | rfl | exact ⟨rfl, rfl⟩ | exact ⟨rfl, rfl, rfl⟩))) | (refine both_ways ?_ ?_) | (rw [wrap_i64 (by omega) (by omega)]) | (refine guardV_split (fun h => ?_) (fun h => ?_) <;> (try rw [h]) <;> (try simp at h) <;> (try (exfalso; omega))))
  refine awp_rounds (fun (i : Nat) τ s' => ∃ tk, Ext s s' ∧ i ≤ B.length ∧ τ 0 = .ptr (some (k, [])) ∧ τ 1 = .int .i64 o ∧ τ 5 = .slice tk ((numsB (B.take i) o).map (AV.int .i64)) ∧ τ 6 = .int .i64 i) (fun i => B.length - i) 0 ?_ ?_
  · have e0 : numsB [] o = [] := by simp [numsB, numsU]
    refine ⟨.full, Ext.refl _, by omega, ?_, ?_, ?_, ?_⟩ <;> (try simp only [go_sem, List.take_zero, e0]) <;> (try rfl)
  · rintro i τ s' ⟨tk, hx, hi, t0, t1, t5, t6⟩
    obtain ⟨tq, ho⟩ := (h.ext hx).o
    have ck := cellAt_known ho
    by_cases hlt : i < B.length
    · have hlt1 : (i : Int) < B.length := by omega
      have hb : B[i]? = some B[i] := List.getElem?_eq_getElem hlt
      have htk : B.take (i + 1) = B.take i ++ [B[i]] := (List.take_append_getElem hlt).symm
      generalize B[i] = b at hb htk
      have hnl : (numsB (B.take i) o).length ≤ 2048 := by
        rw [numsB_len]; have := usedN_le (L := B.take i) (o := o); simp at this; omega
      have w1 : IntKind.i64.wrap ((i : Int) + 1) = (i : Int) + 1 := wrap_i64 (by omega) (by omega)
      by_cases hbo : b.owner = o
      · have hq : (b.owner != o) = false := by simp [hbo]
        repeat' (first | (simp -dsimp only [↓reduceIte, go_sem, ck, t0, t1, t5, t6, hlt1, hq, w1]) | (refine arr_intro fun _ => ?_) | (refine later_intro ⟨keeps_nil, ?_⟩) | (refine later_intro ⟨keeps_refl, ?_⟩) | (with_reducible refine keeps_go ?_ ?_; focus (first | (simp [keeps_cons, keeps_none, objs_app, objs_app0]; done) | (simp only [keeps_cons, keeps_none, objs_app0, objs_app, and_true]; first | rfl | exact ⟨rfl, rfl⟩ | exact ⟨rfl, rfl, rfl⟩))) | (with_reducible refine (And.intro (a := keeps _ _ _) ?_ ?_); focus (first | (simp [keeps_cons, keeps_none, objs_app, objs_app0]; done) | (simp only [keeps_cons, keeps_none, objs_app0, objs_app, and_true]; first | rfl | exact ⟨rfl, rfl⟩ | exact ⟨rfl, rfl, rfl⟩))) | (refine both_ways ?_ ?_) | (rw [wrap_i64 (by omega) (by omega)]) | (refine guardV_split (fun h => ?_) (fun h => ?_) <;> (try rw [h]) <;> (try simp at h) <;> (try (exfalso; omega))) | (refine nth_get hb ?_))
        have hins := fun p => nums_ins (A := B.take i) (o := o) (b := b) (p := p) rfl hbo
        simp only [← htk] at hins
        generalize numsB (B.take i) o = L at *
        refine awp_rounds (fun (p : Nat) τ s2 => s2 = s' ∧ p ≤ L.length ∧ (∀ (j : Nat) y, j < p → L[j]? = some y → y < b.num) ∧ τ 0 = .ptr (some (k, [])) ∧ τ 1 = .int .i64 o ∧ τ 5 = .slice tk (L.map (AV.int .i64)) ∧ τ 6 = .int .i64 i ∧ τ 7 = .int .i64 p) (fun p => L.length - p) 0 ?_ ?_
        · refine ⟨rfl, by omega, by omega, ?_, ?_, ?_, ?_, ?_⟩ <;> (try simp only [go_sem, t0, t1, t5, t6]) <;> (try rfl)
        · rintro p τ s2 ⟨rfl, hp, hall, t0, t1, t5, t6, t7⟩
          have w2 : IntKind.i64.wrap ((p : Int) + 1) = (p : Int) + 1 := wrap_i64 (by omega) (by omega)
          have fin : (∀ y, L[p]? = some y → ¬ y < b.num) → True := fun _ => trivial
          by_cases hpl : p < L.length
          · have hpl1 : (p : Int) < L.length := by omega
            have hy : L[p]? = some L[p] := List.getElem?_eq_getElem hpl
            generalize L[p] = y at hy
            by_cases hyb : y < b.num
            · repeat' (first | (simp -dsimp only [↓reduceIte, go_sem, ck, t0, t1, t5, t6, t7, hpl1, hyb, w2]) | (refine arr_intro fun _ => ?_) | (refine later_intro ⟨keeps_nil, ?_⟩) | (refine later_intro ⟨keeps_refl, ?_⟩) | (with_reducible refine keeps_go ?_ ?_; focus (first | (simp [keeps_cons, keeps_none, objs_app, objs_app0]; done) | (simp only [keeps_cons, keeps_none, objs_app0, objs_app, and_true]; first | rfl | exact ⟨rfl, rfl⟩ | exact ⟨rfl, rfl, rfl⟩))) | (with_reducible refine (And.intro (a := keeps _ _ _) ?_ ?_); focus (first | (simp [keeps_cons, keeps_none, objs_app, objs_app0]; done) | (simp only [keeps_cons, keeps_none, objs_app0, objs_app, and_true]; first | rfl | exact ⟨rfl, rfl⟩ | exact ⟨rfl, rfl, rfl⟩))) | (refine both_ways ?_ ?_) | (rw [wrap_i64 (by omega) (by omega)]) | (refine guardV_split (fun h => ?_) (fun h => ?_) <;> (try rw [h]) <;> (try simp at h) <;> (try (exfalso; omega))) | (with_reducible refine awp_drawS (id := 7) [0, 1, 2, 3, 4, 5, 6, 7, 8, 9, 10, 11, 12, 13, 14, 15, 16, 17, 18] (by kernel_rfl) ?_) | (refine nth_get hy ?_) | (refine nth_get hb ?_))
              have hj : ∀ (j : Nat) z, j < p + 1 → L[j]? = some z → z < b.num := by
                intro j z hj hz
                by_cases e : j = p
                · subst e; rw [hy] at hz; cases hz; exact hyb
                · exact hall j z (by omega) hz
              refine later_intro ⟨p + 1, by omega, ?_⟩
              (repeat' apply And.intro) <;> (try simp only [go_sem, t0, t1, t5, t6, t7]) <;> first | rfl | omega | exact hj | (exact t0) | (exact t1) | (exact t5) | exact t6
            · have hi1 := hins p hall (by intro z hz; rw [hy] at hz; cases hz; exact hyb)
              repeat' (first | (simp -dsimp only [↓reduceIte, go_sem, ck, t0, t1, t5, t6, t7, hpl1, hyb, w1, w2, cellAt_growS, objs_growSB]) | (refine arr_intro fun _ => ?_) | (refine later_intro ⟨keeps_nil, ?_⟩) | (refine later_intro ⟨keeps_refl, ?_⟩) | (with_reducible refine keeps_go ?_ ?_; focus (first | (simp [keeps_cons, keeps_none, objs_app, objs_app0]; done) | (simp only [keeps_cons, keeps_none, objs_app0, objs_app, and_true]; first | rfl | exact ⟨rfl, rfl⟩ | exact ⟨rfl, rfl, rfl⟩))) | (with_reducible refine (And.intro (a := keeps _ _ _) ?_ ?_); focus (first | (simp [keeps_cons, keeps_none, objs_app, objs_app0]; done) | (simp only [keeps_cons, keeps_none, objs_app0, objs_app, and_true]; first | rfl | exact ⟨rfl, rfl⟩ | exact ⟨rfl, rfl, rfl⟩))) | (refine both_ways ?_ ?_) | (rw [wrap_i64 (by omega) (by omega)]) | (refine guardV_split (fun h => ?_) (fun h => ?_) <;> (try rw [h]) <;> (try simp at h) <;> (try (exfalso; omega))) | (with_reducible refine awp_drawS (id := 7) [0, 1, 2, 3, 4, 5, 6, 7, 8, 9, 10, 11, 12, 13, 14, 15, 16, 17, 18] (by kernel_rfl) ?_) | (refine nth_get hy ?_) | (refine nth_get hb ?_) | (with_reducible refine awp_drawU (id := 9) (.op 0 2 (.op 1 2 (.op 2 2 (.op 3 2 (.op 5 0 (.op 6 0 (.op 7 0 (.op 8 0 (.op 9 0 (.op 10 0 (.op 11 0 (.op 12 0 (.op 13 0 (.op 15 0 (.op 16 0 (.op 17 0 (.op 4 1 (.op 14 1 (.cut (.op 18 1 (.op 19 2 .nil))))))))))))))))))))) (by kernel_rfl) ?_) | (refine build_slice E37 rfl (by decide) (by intro v hv; simp at hv; try (subst hv; simp [go_sem])) ?_) | (refine hi_nums hp fun t => ?_) | (refine lo_nums hp fun t => ?_) | (refine append_inone (by simp; omega) ?_) | (refine append_int1 canGrow (by simp; omega) ?_) | (refine append_ints (canApp_of canGrow2 (by simp)) (by simp; omega) ?_))
              refine later_intro ⟨i + 1, by omega, .own s2.toks.length, ?_⟩
              (repeat' apply And.intro) <;> (try simp only [go_sem, t0, t1, t5, t6, hi1, List.append_assoc, List.singleton_append]) <;> first | rfl | omega | (exact hx.grow2) | trivial
          · have hpl1 : ¬ (p : Int) < L.length := by omega
            have hi1 := hins p hall (by intro z hz; have := (List.getElem?_eq_some_iff.1 hz).1; omega)
            repeat' (first | (simp -dsimp only [↓reduceIte, go_sem, ck, t0, t1, t5, t6, t7, hpl1, w1, w2, cellAt_growS, objs_growSB]) | (refine arr_intro fun _ => ?_) | (refine later_intro ⟨keeps_nil, ?_⟩) | (refine later_intro ⟨keeps_refl, ?_⟩) | (with_reducible refine keeps_go ?_ ?_; focus (first | (simp [keeps_cons, keeps_none, objs_app, objs_app0]; done) | (simp only [keeps_cons, keeps_none, objs_app0, objs_app, and_true]; first | rfl | exact ⟨rfl, rfl⟩ | exact ⟨rfl, rfl, rfl⟩))) | (with_reducible refine (And.intro (a := keeps _ _ _) ?_ ?_); focus (first | (simp [keeps_cons, keeps_none, objs_app, objs_app0]; done) | (simp only [keeps_cons, keeps_none, objs_app0, objs_app, and_true]; first | rfl | exact ⟨rfl, rfl⟩ | exact ⟨rfl, rfl, rfl⟩))) | (refine both_ways ?_ ?_) | (rw [wrap_i64 (by omega) (by omega)]) | (refine guardV_split (fun h => ?_) (fun h => ?_) <;> (try rw [h]) <;> (try simp at h) <;> (try (exfalso; omega))) | (with_reducible refine awp_drawS (id := 7) [0, 1, 2, 3, 4, 5, 6, 7, 8, 9, 10, 11, 12, 13, 14, 15, 16, 17, 18] (by kernel_rfl) ?_) | (refine nth_get hb ?_) | (with_reducible refine awp_drawU (id := 9) (.op 0 2 (.op 1 2 (.op 2 2 (.op 3 2 (.op 5 0 (.op 6 0 (.op 7 0 (.op 8 0 (.op 9 0 (.op 10 0 (.op 11 0 (.op 12 0 (.op 13 0 (.op 15 0 (.op 16 0 (.op 17 0 (.op 4 1 (.op 14 1 (.cut (.op 18 1 (.op 19 2 .nil))))))))))))))))))))) (by kernel_rfl) ?_) | (refine build_slice E37 rfl (by decide) (by intro v hv; simp at hv; try (subst hv; simp [go_sem])) ?_) | (refine hi_nums hp fun t => ?_) | (refine lo_nums hp fun t => ?_) | (refine append_inone (by simp; omega) ?_) | (refine append_int1 canGrow (by simp; omega) ?_) | (refine append_ints (canApp_of canGrow2 (by simp)) (by simp; omega) ?_))
            refine later_intro ⟨i + 1, by omega, .own s2.toks.length, ?_⟩
            (repeat' apply And.intro) <;> (try simp only [go_sem, t0, t1, t5, t6, hi1, List.append_assoc, List.singleton_append]) <;> first | rfl | omega | (exact hx.grow2) | trivial
      · have hq : (b.owner != o) = true := by simp [hbo]
        have hsk := nums_skip (A := B.take i) hbo
        rw [← htk] at hsk
        repeat' (first | (simp -dsimp only [↓reduceIte, go_sem, ck, t0, t1, t5, t6, hlt1, hq, w1]) | (refine arr_intro fun _ => ?_) | (refine later_intro ⟨keeps_nil, ?_⟩) | (refine later_intro ⟨keeps_refl, ?_⟩) | (with_reducible refine keeps_go ?_ ?_; focus (first | (simp [keeps_cons, keeps_none, objs_app, objs_app0]; done) | (simp only [keeps_cons, keeps_none, objs_app0, objs_app, and_true]; first | rfl | exact ⟨rfl, rfl⟩ | exact ⟨rfl, rfl, rfl⟩))) | (with_reducible refine (And.intro (a := keeps _ _ _) ?_ ?_); focus (first | (simp [keeps_cons, keeps_none, objs_app, objs_app0]; done) | (simp only [keeps_cons, keeps_none, objs_app0, objs_app, and_true]; first | rfl | exact ⟨rfl, rfl⟩ | exact ⟨rfl, rfl, rfl⟩))) | (refine both_ways ?_ ?_) | (rw [wrap_i64 (by omega) (by omega)]) | (refine guardV_split (fun h => ?_) (fun h => ?_) <;> (try rw [h]) <;> (try simp at h) <;> (try (exfalso; omega))) | (refine nth_get hb ?_))
        refine later_intro ⟨i + 1, by omega, tk, ?_⟩
        (repeat' apply And.intro) <;> (try simp only [go_sem, t0, t1, t5, t6, hsk]) <;> first | rfl | omega | exact hx | trivial
    · obtain rfl : i = B.length := by omega
      have hlt1 : ¬ ((B.length : Nat) : Int) < B.length := by omega
      rw [List.take_length] at t5
      repeat' (first | (simp -dsimp only [↓reduceIte, go_sem, ck, t0, t1, t5, t6, hlt1]) | (refine arr_intro fun _ => ?_) | (refine later_intro ⟨keeps_nil, ?_⟩) | (refine later_intro ⟨keeps_refl, ?_⟩) | (with_reducible refine keeps_go ?_ ?_; focus (first | (simp [keeps_cons, keeps_none, objs_app, objs_app0]; done) | (simp only [keeps_cons, keeps_none, objs_app0, objs_app, and_true]; first | rfl | exact ⟨rfl, rfl⟩ | exact ⟨rfl, rfl, rfl⟩))) | (with_reducible refine (And.intro (a := keeps _ _ _) ?_ ?_); focus (first | (simp [keeps_cons, keeps_none, objs_app, objs_app0]; done) | (simp only [keeps_cons, keeps_none, objs_app0, objs_app, and_true]; first | rfl | exact ⟨rfl, rfl⟩ | exact ⟨rfl, rfl, rfl⟩))) | (refine both_ways ?_ ?_) | (rw [wrap_i64 (by omega) (by omega)]) | (refine guardV_split (fun h => ?_) (fun h => ?_) <;> (try rw [h]) <;> (try simp at h) <;> (try (exfalso; omega))))
      exact hK _ _ hx
end
end Go.Aff.L10

