import Derived.Test.YtjhldllkjmlabaaG24

set_option linter.unusedSimpArgs false
set_option linter.unusedVariables false

/- Layer 11, walked: both stores together; a call of both. -/
-- cuts
namespace Go.Aff.L10
open Go.Proofs Go.Aff Go.Aff.L01 Classical
set_option linter.unusedVariables false
set_option linter.unusedSimpArgs false
set_option maxRecDepth 20000
attribute [local go_sem] push_app app_app length_app cellAt_app cellAt_app0 set_app set_app0 objs_app objs_app0 List.cons_append List.nil_append List.length_cons List.length_nil List.getElem?_cons_zero List.getElem?_cons_succ List.set_cons_zero List.set_cons_succ List.length_map
attribute [-go_sem] cellAt_new
attribute [-simp] List.length_flatMap
attribute [local go_sem] Try.underlying3 Try.underlying4 Try.underlying5 Try.underlying9 Try.underlying24 Try.underlying43 Try.underlying37 Try.underlying22 Try.underlying32 blobPs_0 blobAt_0 blobSet_0 blobPs_1 blobAt_1 blobSet_1 blobPs_2 blobAt_2 blobSet_2 blobPs_3 blobAt_3 blobSet_3 sizes_blob shapes_blob fits_blob zero_blob zt_blob built_blob Try.underlying26 bkeyPs_0 bkeyAt_0 bkeySet_0 bkeyPs_1 bkeyAt_1 bkeySet_1 sizes_bkey shapes_bkey fits_bkey zero_bkey zt_bkey built_bkey Try.underlying56 rstPs_0 rstAt_0 rstSet_0 sizes_rst shapes_rst fits_rst zero_rst zt_rst built_rst Try.underlying45 actPs_0 actAt_0 actSet_0 actPs_1 actAt_1 actSet_1 actPs_2 actAt_2 actSet_2 actPs_3 actAt_3 actSet_3 actPs_4 actAt_4 actSet_4 sizes_act shapes_act fits_act zero_act zt_act built_act Try.underlying42
attribute [local go_sem] fits3 fits4 fits5 fits9 fits23 fits26 fits31 fits34 zt3 zero3 bin_blob_eql bin_blob_neq
attribute [local go_sem ↓] blockQ_exit2
attribute [local simp] dig_ext
attribute [local go_sem] fits58 stAt zero60 zt60 built60 fits60 shape_mp Try.underlying58 Try.underlying60 Try.underlying27 Try.underlying28
attribute [local go_sem] fits_bkey zero_bkey zt_bkey built_bkey
/-- Both stores in memory, and what else is known of memory. -/
structure Tw (σ0 s : AST) (j mi k : Nat) (B C : List Blob) (F : List (Nat × AObj)) : Prop where
  p : SF σ0 s j mi B F
  q : RB σ0 s k C F
  kj : k ≠ j
  km : k ≠ mi
section
variable {σ0 s s2 : AST} {j mi k : Nat} {B C : List Blob} {F : List (Nat × AObj)} {K : AV → AST → Prop}
theorem RB.more (h : RB σ0 s k B F) {i : Nat} {o : AObj} (ho : s.objs[i]? = some o) (h1 : i ≠ k) : RB σ0 s k B ((i, o) :: F) :=
  ⟨h.x, h.kn, h.o, fun x hx => by
    rcases List.mem_cons.1 hx with rfl | hx
    · exact ⟨h1, ho⟩
    · exact h.f x hx⟩
theorem RB.less {y : Nat × AObj} (h : RB σ0 s k B (y :: F)) : RB σ0 s k B F := ⟨h.x, h.kn, h.o, fun x hx => h.f x (List.mem_cons_of_mem _ hx)⟩
theorem Tw.ext (h : Tw σ0 s j mi k B C F) (e : Ext s s2) : Tw σ0 s2 j mi k B C F := ⟨h.p.ext e, h.q.ext e, h.kj, h.km⟩
theorem Tw.more (h : Tw σ0 s j mi k B C F) {i : Nat} {o : AObj} (ho : s.objs[i]? = some o) (h1 : i ≠ j) (h2 : i ≠ mi) (h3 : i ≠ k) : Tw σ0 s j mi k B C ((i, o) :: F) := ⟨h.p.more ho h1 h2, h.q.more ho h3, h.kj, h.km⟩
theorem Tw.less {y : Nat × AObj} (h : Tw σ0 s j mi k B C (y :: F)) : Tw σ0 s j mi k B C F := ⟨h.p.less, h.q.less, h.kj, h.km⟩
theorem Tw.lt (h : Tw σ0 s j mi k B C F) : j < s.objs.length ∧ mi < s.objs.length ∧ k < s.objs.length := by
  obtain ⟨t, o⟩ := h.q.o
  exact ⟨h.p.lt.1, h.p.lt.2, cell_ltB o⟩
theorem Tw.box (h : Tw σ0 s j mi k B C F) (o : AObj) : Tw σ0 (s.app [o]) j mi k B C ((s.objs.length, o) :: F) := by
  have hl := h.lt
  exact (h.ext (Ext.app _ _)).more objs_app0 (by omega) (by omega) (by omega)
theorem Tw.sf (h : Tw σ0 s j mi k B C F) : ∃ o, SF σ0 s j mi B ((k, o) :: F) ∧ ∀ s' B', SF σ0 s' j mi B' ((k, o) :: F) → Tw σ0 s' j mi k B' C F := by
  obtain ⟨t, o⟩ := h.q.o
  exact ⟨_, h.p.more o h.kj h.km, fun s' B' h' => ⟨h'.less, ⟨h'.x, h.q.kn, ⟨t, (h'.f _ (List.mem_cons_self ..)).2.2⟩, fun x hx => ⟨(h.q.f x hx).1, (h'.less.f x hx).2.2⟩⟩, h.kj, h.km⟩⟩
theorem Tw.rb (h : Tw σ0 s j mi k B C F) : ∃ o1 o2, RB σ0 s k C ((j, o1) :: (mi, o2) :: F) ∧ ∀ s' C', RB σ0 s' k C' ((j, o1) :: (mi, o2) :: F) → Tw σ0 s' j mi k B C' F := by
  obtain ⟨E, ck, h1, h2, h3, h4⟩ := h.p.om
  refine ⟨_, _, (h.q.more h2 (Ne.symm h.km)).more h.p.o (Ne.symm h.kj), fun s' C' h' => ⟨⟨h'.x, h.p.jn, h.p.mn, h.p.jm, (h'.f _ (List.mem_cons_self ..)).2, ⟨E, ck, h1, (h'.less.f _ (List.mem_cons_self ..)).2, h3, h4⟩, fun x hx => ⟨(h.p.f x hx).1, (h.p.f x hx).2.1, (h'.less.less.f x hx).2⟩⟩, h'.less.less, h.kj, h.km⟩⟩
theorem tput_c (h : Tw σ0 s j mi k B C F) (hB : BOk B) {b : Blob} (hK : ∀ s', Tw σ0 s' j mi k (bput B b).1 C F → K (.int .i64 (bput B b).2) s') : TCalls Try.prog 10 [.ptr (some (j, [])), .agg (blobPs b)] s K := by
  obtain ⟨o, h1, h2⟩ := h.sf
  exact sput_c h1 hB fun s' h' => hK s' (h2 s' _ h')
theorem tprune_c (h : Tw σ0 s j mi k B C F) (hB : BOk B) {o : Int} {tl : Tk} {l : List Int} (hK : ∀ s', Tw σ0 s' j mi k (bprune B o l).1 C F → K (.int .i64 (bprune B o l).2) s') : TCalls Try.prog 12 [.ptr (some (j, [])), .int .i64 o, .slice tl (l.map (AV.int .i64))] s K := by
  obtain ⟨_, h1, h2⟩ := h.sf
  exact sprune_c h1 hB fun s' h' => hK s' (h2 s' _ h')
theorem trput_c (h : Tw σ0 s j mi k B C F) (hC : BOk C) {b : Blob} (hK : ∀ s', Tw σ0 s' j mi k B (bput C b).1 F → K (.int .i64 (bput C b).2) s') : TCalls Try.prog 24 [.ptr (some (k, [])), .agg (blobPs b)] s K := by
  obtain ⟨_, _, h1, h2⟩ := h.rb
  exact rput_c h1 hC fun s' h' => hK s' (h2 s' _ h')
theorem trprune_c (h : Tw σ0 s j mi k B C F) (hC : BOk C) {o : Int} {tl : Tk} {l : List Int} (hK : ∀ s', Tw σ0 s' j mi k B (bprune C o l).1 F → K (.int .i64 (bprune C o l).2) s') : TCalls Try.prog 22 [.ptr (some (k, [])), .int .i64 o, .slice tl (l.map (AV.int .i64))] s K := by
  obtain ⟨_, _, h1, h2⟩ := h.rb
  exact rprune_c h1 hC fun s' h' => hK s' (h2 s' _ h')
noncomputable def bputs (B : List Blob) (b : Blob) : Nat → List Blob
  | 0 => B
  | i + 1 => (bput (bputs B b i) { b with num := 1000 + i }).1
theorem bputs_ok (hB : BOk B) {b : Blob} : ∀ i, BOk (bputs B b i)
  | 0 => hB
  | i + 1 => (bputs_ok hB i).put _
noncomputable def bdo (B : List Blob) (a : Act11) : List Blob :=
  if a.kind = 3 then (bprune B a.owner (a.l.take 100)).1
  else if a.kind = 4 then B
  else if a.kind = 5 then bputs B { a.b with cipher := a.b.cipher.take 400 } (min a.number 90).toNat
  else (bput B a.b).1
theorem bdo_ok (hB : BOk B) (a : Act11) : BOk (bdo B a) := by
  unfold bdo
  split
  · exact hB.prune _ _
  split
  · exact hB
  split
  · exact bputs_ok hB _
  · exact hB.put _
theorem hi_ints {l : List Int} {tk : Tk} {i : Nat} {KV : AV → Prop} (hi : i ≤ l.length) (h : ∀ t, KV (.slice t ((l.take i).map (AV.int .i64)))) : sliceW Try.prog 37 (.slice tk (l.map (AV.int .i64))) none (some (.int .i64 i)) none KV :=
  slice_hi E25 ⟨_, Try.underlying3⟩ (by intro v hv; obtain ⟨x, _, rfl⟩ := List.mem_map.1 hv; rfl) (by simpa using hi) fun t => by rw [← List.map_take]; exact h t
theorem Tw.setF {i : Nat} {o o' : AObj} (h : Tw σ0 s j mi k B C ((i, o) :: F)) (hF : ∀ x ∈ F, x.1 ≠ i) (hi : σ0.objs.length ≤ i) : Tw σ0 (s.set i o') j mi k B C ((i, o') :: F) := by
  have h1 := h.p.f _ (List.mem_cons_self ..)
  have h2 := h.q.f _ (List.mem_cons_self ..)
  dsimp only at h1 h2
  have hl := cell_ltB h1.2.2
  obtain ⟨E, ck, e1, e2, e3, e4⟩ := h.p.om
  obtain ⟨t, oq⟩ := h.q.o
  refine ⟨⟨h.p.x.set hi, h.p.jn, h.p.mn, h.p.jm, by rw [objs_setNB h1.1]; exact h.p.o, ⟨E, ck, e1, by rw [objs_setNB h1.2.1]; exact e2, e3, e4⟩, fun x hx => ?_⟩, ⟨h.q.x.set hi, h.q.kn, ⟨t, by rw [objs_setNB h2.1]; exact oq⟩, fun x hx => ?_⟩, h.kj, h.km⟩
  · rcases List.mem_cons.1 hx with rfl | hx
    · exact ⟨h1.1, h1.2.1, objs_setSB hl⟩
    · have := h.p.f x (List.mem_cons_of_mem _ hx)
      exact ⟨this.1, this.2.1, by rw [objs_setNB (Ne.symm (hF x hx))]; exact this.2.2⟩
  · rcases List.mem_cons.1 hx with rfl | hx
    · exact ⟨h2.1, objs_setSB hl⟩
    · have := h.q.f x (List.mem_cons_of_mem _ hx)
      exact ⟨this.1, by rw [objs_setNB (Ne.symm (hF x hx))]; exact this.2⟩
theorem do_c (h : Tw σ0 s j mi k B B F) (hB : BOk B) {t : Tk} {a : Act11} (hK : ∀ s', Tw σ0 s' j mi k (bdo B a) (bdo B a) F → K (.bool true) s') : TCalls Try.prog 14 [.ptr (some (j, [])), .ptr (some (k, [])), .agg (actPs t a)] s K := by
  have hb := h.box (.cells (.agg (actPs t a)))
  have ha := (hb.p.f _ (List.mem_cons_self ..)).2.2
  have ca := cellAt_known ha
  by_cases h3 : a.kind = 3
  · have hd : bdo B a = (bprune B a.owner (a.l.take 100)).1 := by unfold bdo; rw [if_pos h3]
    rw [hd] at hK
    refine tcalls_walk Try.f14 _ [.tmp 6] Try.func14 rfl rfl rfl mixed (Nat.le_of_ble_eq_true rfl) rfl fun hlen => ?_
    by_cases hl : 100 < a.l.length
    · have hl1 : ((a.l.length : Nat) : Int) > 100 := by omega
      repeat' (first | (simp -dsimp only [↓reduceIte, go_sem, ca, h3, hl1]) | (refine arr_intro fun _ => ?_) | (refine later_intro ⟨keeps_nil, ?_⟩) | (refine later_intro ⟨keeps_refl, ?_⟩) | (with_reducible refine keeps_go ?_ ?_; focus (first | (simp [keeps_cons, keeps_none, objs_app, objs_app0]; done) | (simp only [keeps_cons, keeps_none, objs_app0, objs_app, and_true]; first | rfl | exact ⟨rfl, rfl⟩ | exact ⟨rfl, rfl, rfl⟩))) | (with_reducible refine (And.intro (a := keeps _ _ _) ?_ ?_); focus (first | (simp [keeps_cons, keeps_none, objs_app, objs_app0]; done) | (simp only [keeps_cons, keeps_none, objs_app0, objs_app, and_true]; first | rfl | exact ⟨rfl, rfl⟩ | exact ⟨rfl, rfl, rfl⟩))) | (refine both_ways ?_ ?_) | (rw [wrap_i64 (by omega) (by omega)]) | (refine guardV_split (fun h => ?_) (fun h => ?_) <;> (try rw [h]) <;> (try simp at h) <;> (try (exfalso; omega))) | (refine hi_ints (i := 100) (by omega) fun t => ?_) | (with_reducible refine awp_drawU (id := 6) (.op 0 2 (.op 1 2 (.op 2 2 (.op 3 2 (.op 5 0 (.op 6 0 (.op 7 0 (.op 8 0 (.op 4 1 (.cut (.op 9 1 (.op 10 2 (.op 11 2 .nil))))))))))))) (by kernel_rfl) ?_))
      refine tprune_c hb hB fun s1 h1 => ?_
      have o1 := (h1.p.f _ (List.mem_cons_self ..)).2.2
      have c1 := cellAt_known o1
      dsimp only at o1 ha
      repeat' (first | (simp -dsimp only [↓reduceIte, go_sem, c1]) | (refine arr_intro fun _ => ?_) | (refine later_intro ⟨keeps_nil, ?_⟩) | (refine later_intro ⟨keeps_refl, ?_⟩) | (with_reducible refine keeps_go ?_ ?_; focus (first | (simp [keeps_cons, keeps_none, objs_app, objs_app0]; done) | (simp only [keeps_cons, keeps_none, objs_app0, objs_app, and_true]; first | rfl | exact ⟨rfl, rfl⟩ | exact ⟨rfl, rfl, rfl⟩))) | (with_reducible refine (And.intro (a := keeps _ _ _) ?_ ?_); focus (first | (simp [keeps_cons, keeps_none, objs_app, objs_app0]; done) | (simp only [keeps_cons, keeps_none, objs_app0, objs_app, and_true]; first | rfl | exact ⟨rfl, rfl⟩ | exact ⟨rfl, rfl, rfl⟩))) | (refine both_ways ?_ ?_) | (rw [wrap_i64 (by omega) (by omega)]) | (refine guardV_split (fun h => ?_) (fun h => ?_) <;> (try rw [h]) <;> (try simp at h) <;> (try (exfalso; omega))) | (with_reducible refine keeps_go ?_ ?_; focus (simp [keeps_cons, keeps_none, objs_app, objs_app0, ha, o1]; done)) | (with_reducible refine (And.intro (a := keeps _ _ _) ?_ ?_); focus (simp [keeps_cons, keeps_none, objs_app, objs_app0, ha, o1]; done)))
      refine trprune_c h1 hB fun s2 h2 => ?_
      repeat' (first | (simp -dsimp only [↓reduceIte, go_sem]) | (refine arr_intro fun _ => ?_) | (refine later_intro ⟨keeps_nil, ?_⟩) | (refine later_intro ⟨keeps_refl, ?_⟩) | (with_reducible refine keeps_go ?_ ?_; focus (first | (simp [keeps_cons, keeps_none, objs_app, objs_app0]; done) | (simp only [keeps_cons, keeps_none, objs_app0, objs_app, and_true]; first | rfl | exact ⟨rfl, rfl⟩ | exact ⟨rfl, rfl, rfl⟩))) | (with_reducible refine (And.intro (a := keeps _ _ _) ?_ ?_); focus (first | (simp [keeps_cons, keeps_none, objs_app, objs_app0]; done) | (simp only [keeps_cons, keeps_none, objs_app0, objs_app, and_true]; first | rfl | exact ⟨rfl, rfl⟩ | exact ⟨rfl, rfl, rfl⟩))) | (refine both_ways ?_ ?_) | (rw [wrap_i64 (by omega) (by omega)]) | (refine guardV_split (fun h => ?_) (fun h => ?_) <;> (try rw [h]) <;> (try simp at h) <;> (try (exfalso; omega))))
      exact hK _ h2.less
    · have hl1 : ¬ ((a.l.length : Nat) : Int) > 100 := by omega
      rw [List.take_of_length_le (by omega)] at hK
      repeat' (first | (simp -dsimp only [↓reduceIte, go_sem, ca, h3, hl1]) | (refine arr_intro fun _ => ?_) | (refine later_intro ⟨keeps_nil, ?_⟩) | (refine later_intro ⟨keeps_refl, ?_⟩) | (with_reducible refine keeps_go ?_ ?_; focus (first | (simp [keeps_cons, keeps_none, objs_app, objs_app0]; done) | (simp only [keeps_cons, keeps_none, objs_app0, objs_app, and_true]; first | rfl | exact ⟨rfl, rfl⟩ | exact ⟨rfl, rfl, rfl⟩))) | (with_reducible refine (And.intro (a := keeps _ _ _) ?_ ?_); focus (first | (simp [keeps_cons, keeps_none, objs_app, objs_app0]; done) | (simp only [keeps_cons, keeps_none, objs_app0, objs_app, and_true]; first | rfl | exact ⟨rfl, rfl⟩ | exact ⟨rfl, rfl, rfl⟩))) | (refine both_ways ?_ ?_) | (rw [wrap_i64 (by omega) (by omega)]) | (refine guardV_split (fun h => ?_) (fun h => ?_) <;> (try rw [h]) <;> (try simp at h) <;> (try (exfalso; omega))) | (with_reducible refine awp_drawU (id := 6) (.op 0 2 (.op 1 2 (.op 2 2 (.op 3 2 (.op 5 0 (.op 6 0 (.op 7 0 (.op 8 0 (.op 4 1 (.cut (.op 9 1 (.op 10 2 (.op 11 2 .nil))))))))))))) (by kernel_rfl) ?_))
      refine tprune_c hb hB fun s1 h1 => ?_
      have o1 := (h1.p.f _ (List.mem_cons_self ..)).2.2
      have c1 := cellAt_known o1
      dsimp only at o1 ha
      repeat' (first | (simp -dsimp only [↓reduceIte, go_sem, c1]) | (refine arr_intro fun _ => ?_) | (refine later_intro ⟨keeps_nil, ?_⟩) | (refine later_intro ⟨keeps_refl, ?_⟩) | (with_reducible refine keeps_go ?_ ?_; focus (first | (simp [keeps_cons, keeps_none, objs_app, objs_app0]; done) | (simp only [keeps_cons, keeps_none, objs_app0, objs_app, and_true]; first | rfl | exact ⟨rfl, rfl⟩ | exact ⟨rfl, rfl, rfl⟩))) | (with_reducible refine (And.intro (a := keeps _ _ _) ?_ ?_); focus (first | (simp [keeps_cons, keeps_none, objs_app, objs_app0]; done) | (simp only [keeps_cons, keeps_none, objs_app0, objs_app, and_true]; first | rfl | exact ⟨rfl, rfl⟩ | exact ⟨rfl, rfl, rfl⟩))) | (refine both_ways ?_ ?_) | (rw [wrap_i64 (by omega) (by omega)]) | (refine guardV_split (fun h => ?_) (fun h => ?_) <;> (try rw [h]) <;> (try simp at h) <;> (try (exfalso; omega))) | (with_reducible refine keeps_go ?_ ?_; focus (simp [keeps_cons, keeps_none, objs_app, objs_app0, ha, o1]; done)) | (with_reducible refine (And.intro (a := keeps _ _ _) ?_ ?_); focus (simp [keeps_cons, keeps_none, objs_app, objs_app0, ha, o1]; done)))
      refine trprune_c h1 hB fun s2 h2 => ?_
      repeat' (first | (simp -dsimp only [↓reduceIte, go_sem]) | (refine arr_intro fun _ => ?_) | (refine later_intro ⟨keeps_nil, ?_⟩) | (refine later_intro ⟨keeps_refl, ?_⟩) | (with_reducible refine keeps_go ?_ ?_; focus (first | (simp [keeps_cons, keeps_none, objs_app, objs_app0]; done) | (simp only [keeps_cons, keeps_none, objs_app0, objs_app, and_true]; first | rfl | exact ⟨rfl, rfl⟩ | exact ⟨rfl, rfl, rfl⟩))) | (with_reducible refine (And.intro (a := keeps _ _ _) ?_ ?_); focus (first | (simp [keeps_cons, keeps_none, objs_app, objs_app0]; done) | (simp only [keeps_cons, keeps_none, objs_app0, objs_app, and_true]; first | rfl | exact ⟨rfl, rfl⟩ | exact ⟨rfl, rfl, rfl⟩))) | (refine both_ways ?_ ?_) | (rw [wrap_i64 (by omega) (by omega)]) | (refine guardV_split (fun h => ?_) (fun h => ?_) <;> (try rw [h]) <;> (try simp at h) <;> (try (exfalso; omega))))
      exact hK _ h2.less
  by_cases h4 : a.kind = 4
  · have hd : bdo B a = B := by unfold bdo; rw [if_neg h3, if_pos h4]
    rw [hd] at hK
    refine tcalls_walk Try.f14 _ [.tmp 6] Try.func14 rfl rfl rfl mixed (Nat.le_of_ble_eq_true rfl) rfl fun hlen => ?_
    repeat' (first | (simp -dsimp only [↓reduceIte, go_sem, ca, h3, h4]) | (refine arr_intro fun _ => ?_) | (refine later_intro ⟨keeps_nil, ?_⟩) | (refine later_intro ⟨keeps_refl, ?_⟩) | (with_reducible refine keeps_go ?_ ?_; focus (first | (simp [keeps_cons, keeps_none, objs_app, objs_app0]; done) | (simp only [keeps_cons, keeps_none, objs_app0, objs_app, and_true]; first | rfl | exact ⟨rfl, rfl⟩ | exact ⟨rfl, rfl, rfl⟩))) | (with_reducible refine (And.intro (a := keeps _ _ _) ?_ ?_); focus (first | (simp [keeps_cons, keeps_none, objs_app, objs_app0]; done) | (simp only [keeps_cons, keeps_none, objs_app0, objs_app, and_true]; first | rfl | exact ⟨rfl, rfl⟩ | exact ⟨rfl, rfl, rfl⟩))) | (refine both_ways ?_ ?_) | (rw [wrap_i64 (by omega) (by omega)]) | (refine guardV_split (fun h => ?_) (fun h => ?_) <;> (try rw [h]) <;> (try simp at h) <;> (try (exfalso; omega))))
    refine sget_c hb.p fun s1 hx => ?_
    have h1 := hb.ext hx
    have c1 := cellAt_known (h1.p.f _ (List.mem_cons_self ..)).2.2
    unfold bgot
    cases hf : bfind B a.owner a.number with
    | none =>
      have hat : batI B a.owner a.number = -1 := by unfold batI; rw [hf]
      have h2 := h1.ext (Ext.app s1 [.cells (.agg (blobPs blob0))])
      have c2 := cellAt_known (h2.p.f _ (List.mem_cons_self ..)).2.2
      repeat' (first | (simp -dsimp only [↓reduceIte, go_sem, c1, c2]) | (refine arr_intro fun _ => ?_) | (refine later_intro ⟨keeps_nil, ?_⟩) | (refine later_intro ⟨keeps_refl, ?_⟩) | (with_reducible refine keeps_go ?_ ?_; focus (first | (simp [keeps_cons, keeps_none, objs_app, objs_app0]; done) | (simp only [keeps_cons, keeps_none, objs_app0, objs_app, and_true]; first | rfl | exact ⟨rfl, rfl⟩ | exact ⟨rfl, rfl, rfl⟩))) | (with_reducible refine (And.intro (a := keeps _ _ _) ?_ ?_); focus (first | (simp [keeps_cons, keeps_none, objs_app, objs_app0]; done) | (simp only [keeps_cons, keeps_none, objs_app0, objs_app, and_true]; first | rfl | exact ⟨rfl, rfl⟩ | exact ⟨rfl, rfl, rfl⟩))) | (refine both_ways ?_ ?_) | (rw [wrap_i64 (by omega) (by omega)]) | (refine guardV_split (fun h => ?_) (fun h => ?_) <;> (try rw [h]) <;> (try simp at h) <;> (try (exfalso; omega))))
      refine rat_c h2.q hB ?_
      repeat' (first | (simp -dsimp only [↓reduceIte, go_sem, c1, c2, hat]) | (refine arr_intro fun _ => ?_) | (refine later_intro ⟨keeps_nil, ?_⟩) | (refine later_intro ⟨keeps_refl, ?_⟩) | (with_reducible refine keeps_go ?_ ?_; focus (first | (simp [keeps_cons, keeps_none, objs_app, objs_app0]; done) | (simp only [keeps_cons, keeps_none, objs_app0, objs_app, and_true]; first | rfl | exact ⟨rfl, rfl⟩ | exact ⟨rfl, rfl, rfl⟩))) | (with_reducible refine (And.intro (a := keeps _ _ _) ?_ ?_); focus (first | (simp [keeps_cons, keeps_none, objs_app, objs_app0]; done) | (simp only [keeps_cons, keeps_none, objs_app0, objs_app, and_true]; first | rfl | exact ⟨rfl, rfl⟩ | exact ⟨rfl, rfl, rfl⟩))) | (refine both_ways ?_ ?_) | (rw [wrap_i64 (by omega) (by omega)]) | (refine guardV_split (fun h => ?_) (fun h => ?_) <;> (try rw [h]) <;> (try simp at h) <;> (try (exfalso; omega))))
      exact hK _ h2.less
    | some i =>
      obtain ⟨b, hbi, _⟩ := bfind_some hf
      have hat : batI B a.owner a.number = i := by unfold batI; rw [hf]
      have h2 := h1.ext (Ext.app s1 [.cells (.agg (blobPs b))])
      have c2 := cellAt_known (h2.p.f _ (List.mem_cons_self ..)).2.2
      obtain ⟨tk, hq⟩ := h2.q.o
      have cq := cellAt_known hq
      simp only [hbi]
      repeat' (first | (simp -dsimp only [↓reduceIte, go_sem, c1, c2]) | (refine arr_intro fun _ => ?_) | (refine later_intro ⟨keeps_nil, ?_⟩) | (refine later_intro ⟨keeps_refl, ?_⟩) | (with_reducible refine keeps_go ?_ ?_; focus (first | (simp [keeps_cons, keeps_none, objs_app, objs_app0]; done) | (simp only [keeps_cons, keeps_none, objs_app0, objs_app, and_true]; first | rfl | exact ⟨rfl, rfl⟩ | exact ⟨rfl, rfl, rfl⟩))) | (with_reducible refine (And.intro (a := keeps _ _ _) ?_ ?_); focus (first | (simp [keeps_cons, keeps_none, objs_app, objs_app0]; done) | (simp only [keeps_cons, keeps_none, objs_app0, objs_app, and_true]; first | rfl | exact ⟨rfl, rfl⟩ | exact ⟨rfl, rfl, rfl⟩))) | (refine both_ways ?_ ?_) | (rw [wrap_i64 (by omega) (by omega)]) | (refine guardV_split (fun h => ?_) (fun h => ?_) <;> (try rw [h]) <;> (try simp at h) <;> (try (exfalso; omega))))
      refine rat_c h2.q hB ?_
      repeat' (first | (simp -dsimp only [↓reduceIte, go_sem, c1, c2, hat, cq]) | (refine arr_intro fun _ => ?_) | (refine later_intro ⟨keeps_nil, ?_⟩) | (refine later_intro ⟨keeps_refl, ?_⟩) | (with_reducible refine keeps_go ?_ ?_; focus (first | (simp [keeps_cons, keeps_none, objs_app, objs_app0]; done) | (simp only [keeps_cons, keeps_none, objs_app0, objs_app, and_true]; first | rfl | exact ⟨rfl, rfl⟩ | exact ⟨rfl, rfl, rfl⟩))) | (with_reducible refine (And.intro (a := keeps _ _ _) ?_ ?_); focus (first | (simp [keeps_cons, keeps_none, objs_app, objs_app0]; done) | (simp only [keeps_cons, keeps_none, objs_app0, objs_app, and_true]; first | rfl | exact ⟨rfl, rfl⟩ | exact ⟨rfl, rfl, rfl⟩))) | (refine both_ways ?_ ?_) | (rw [wrap_i64 (by omega) (by omega)]) | (refine guardV_split (fun h => ?_) (fun h => ?_) <;> (try rw [h]) <;> (try simp at h) <;> (try (exfalso; omega))) | (with_reducible refine awp_drawS (id := 12) [0, 1, 2, 3, 4, 5, 6, 7, 8, 9, 10, 11, 12, 13] (by kernel_rfl) ?_) | (refine nth_get hbi ?_))
      exact hK _ h2.less
  by_cases h5 : a.kind = 5
  · have hd : bdo B a = bputs B { a.b with cipher := a.b.cipher.take 400 } (min a.number 90).toNat := by unfold bdo; rw [if_neg h3, if_neg h4, if_pos h5]
    rw [hd] at hK
    have hFl : ∀ x ∈ F, x.1 < s.objs.length := fun x hx => cell_ltB (h.p.f x hx).2.2
    have hsl := h.p.x
    have hs0 : σ0.objs.length ≤ s.objs.length := by obtain ⟨O, T, rfl⟩ := hsl; simp
    have hc2 : ∀ c : Blob, Tw σ0 (s.app [.cells (.agg (actPs t a)), .cells (.agg (blobPs c))]) j mi k B B ((s.objs.length + 1, .cells (.agg (blobPs c))) :: (s.objs.length, .cells (.agg (actPs t a))) :: F) := fun c => by
      have := hb.box (.cells (.agg (blobPs c)))
      simpa [AST.app] using this
    by_cases hl : 400 < a.b.cipher.length
    · refine tcalls_walk Try.f14 _ [.tmp 6] Try.func14 rfl rfl rfl mixed (Nat.le_of_ble_eq_true rfl) rfl fun hlen => ?_
      have hl1 : ((a.b.cipher.length : Nat) : Int) > 400 := by omega
      have hl2 : (400 : Int) ≤ ((a.b.cipher.length : Nat) : Int) := by omega
      generalize hc : ({ a.b with cipher := a.b.cipher.take 400 } : Blob) = c at *
      have hc' : (⟨a.b.owner, a.b.num, a.b.cipher.take 400, a.b.tag⟩ : Blob) = c := hc
      repeat' (first | (simp -dsimp only [↓reduceIte, go_sem, ca, h3, h4, h5, hl1, hc']) | (refine arr_intro fun _ => ?_) | (refine later_intro ⟨keeps_nil, ?_⟩) | (refine later_intro ⟨keeps_refl, ?_⟩) | (with_reducible refine keeps_go ?_ ?_; focus (first | (simp [keeps_cons, keeps_none, objs_app, objs_app0]; done) | (simp only [keeps_cons, keeps_none, objs_app0, objs_app, and_true]; first | rfl | exact ⟨rfl, rfl⟩ | exact ⟨rfl, rfl, rfl⟩))) | (with_reducible refine (And.intro (a := keeps _ _ _) ?_ ?_); focus (first | (simp [keeps_cons, keeps_none, objs_app, objs_app0]; done) | (simp only [keeps_cons, keeps_none, objs_app0, objs_app, and_true]; first | rfl | exact ⟨rfl, rfl⟩ | exact ⟨rfl, rfl, rfl⟩))) | (refine both_ways ?_ ?_) | (rw [wrap_i64 (by omega) (by omega)]) | (refine guardV_split (fun h => ?_) (fun h => ?_) <;> (try rw [h]) <;> (try simp at h) <;> (try (exfalso; omega))) | ((with_reducible refine side_later (by omega) ?_)))
      have hT0 := hc2 c
      generalize s.app [.cells (.agg (actPs t a)), .cells (.agg (blobPs c))] = S at hT0 ⊢
      refine awp_rounds (fun (i : Nat) τ s' => ∃ n, (i : Int) ≤ max 0 (min a.number 90) ∧ Tw σ0 s' j mi k (bputs B c i) (bputs B c i) ((s.objs.length + 1, .cells (.agg (blobPs { c with num := n }))) :: (s.objs.length, .cells (.agg (actPs t a))) :: F) ∧ τ 0 = .ptr (some (j, [])) ∧ τ 1 = .ptr (some (k, [])) ∧ τ 5 = .ptr (some (s.objs.length, [])) ∧ τ 11 = .ptr (some (s.objs.length + 1, [])) ∧ τ 12 = .int .i64 i) (fun i => 90 - i) 0 ?_ ?_
      · refine ⟨c.num, by omega, hT0, ?_, ?_, ?_, ?_, ?_⟩ <;> (try simp only [go_sem]) <;> (try rfl)
      · rintro i τ s' ⟨n, hi, hT, t0, t1, t5, t11, t12⟩
        have oact := (hT.less.p.f _ (List.mem_cons_self ..)).2.2
        have ob := (hT.p.f _ (List.mem_cons_self ..)).2.2
        dsimp only at oact ob
        have cact := cellAt_known oact
        have cb := cellAt_known ob
        have hBi := bputs_ok hB (b := c) i
        by_cases hlt : (i : Int) < a.number ∧ i < 90
        · have hlt1 : (i : Int) < a.number := hlt.1
          have hlt2 : (i : Int) < 90 := by omega
          have w1 : IntKind.i64.wrap (1000 + (i : Int)) = 1000 + (i : Int) := wrap_i64 (by omega) (by omega)
          have hT2 := hT.setF (o' := .cells (.agg (blobPs { c with num := 1000 + (i : Int) }))) (fun x hx => by
            rcases List.mem_cons.1 hx with rfl | hx
            · exact Nat.ne_of_lt (Nat.lt_succ_self _)
            · have := hFl x hx; omega) (by omega)
          repeat' (first | (simp -dsimp only [↓reduceIte, go_sem, t0, t1, t5, t11, t12, hlt1, hlt2, cact, cb, ob, w1]) | (refine arr_intro fun _ => ?_) | (refine later_intro ⟨keeps_nil, ?_⟩) | (refine later_intro ⟨keeps_refl, ?_⟩) | (with_reducible refine keeps_go ?_ ?_; focus (first | (simp [keeps_cons, keeps_none, objs_app, objs_app0]; done) | (simp only [keeps_cons, keeps_none, objs_app0, objs_app, and_true]; first | rfl | exact ⟨rfl, rfl⟩ | exact ⟨rfl, rfl, rfl⟩))) | (with_reducible refine (And.intro (a := keeps _ _ _) ?_ ?_); focus (first | (simp [keeps_cons, keeps_none, objs_app, objs_app0]; done) | (simp only [keeps_cons, keeps_none, objs_app0, objs_app, and_true]; first | rfl | exact ⟨rfl, rfl⟩ | exact ⟨rfl, rfl, rfl⟩))) | (refine both_ways ?_ ?_) | (rw [wrap_i64 (by omega) (by omega)]) | (refine guardV_split (fun h => ?_) (fun h => ?_) <;> (try rw [h]) <;> (try simp at h) <;> (try (exfalso; omega))))
          generalize s'.set (s.objs.length + 1) (.cells (.agg (blobPs { c with num := 1000 + (i : Int) }))) = s3 at hT2 ⊢
          have ob3 := (hT2.p.f _ (List.mem_cons_self ..)).2.2
          dsimp only at ob3
          have cb3 := cellAt_known ob3
          repeat' (first | (simp -dsimp only [↓reduceIte, go_sem, t0, t1, t5, t11, t12, cb3]) | (refine arr_intro fun _ => ?_) | (refine later_intro ⟨keeps_nil, ?_⟩) | (refine later_intro ⟨keeps_refl, ?_⟩) | (with_reducible refine keeps_go ?_ ?_; focus (first | (simp [keeps_cons, keeps_none, objs_app, objs_app0]; done) | (simp only [keeps_cons, keeps_none, objs_app0, objs_app, and_true]; first | rfl | exact ⟨rfl, rfl⟩ | exact ⟨rfl, rfl, rfl⟩))) | (with_reducible refine (And.intro (a := keeps _ _ _) ?_ ?_); focus (first | (simp [keeps_cons, keeps_none, objs_app, objs_app0]; done) | (simp only [keeps_cons, keeps_none, objs_app0, objs_app, and_true]; first | rfl | exact ⟨rfl, rfl⟩ | exact ⟨rfl, rfl, rfl⟩))) | (refine both_ways ?_ ?_) | (rw [wrap_i64 (by omega) (by omega)]) | (refine guardV_split (fun h => ?_) (fun h => ?_) <;> (try rw [h]) <;> (try simp at h) <;> (try (exfalso; omega))) | (with_reducible refine awp_drawU (id := 21) (.op 0 2 (.op 1 2 (.op 3 0 (.op 4 0 (.op 2 1 (.cut (.op 5 1 (.op 6 2 .nil)))))))) (by kernel_rfl) ?_))
          refine tput_c hT2 hBi fun s4 h4 => ?_
          have ob4 := (h4.p.f _ (List.mem_cons_self ..)).2.2
          dsimp only at ob4
          have cb4 := cellAt_known ob4
          repeat' (first | (simp -dsimp only [↓reduceIte, go_sem, t0, t1, t5, t11, t12, cb4]) | (refine arr_intro fun _ => ?_) | (refine later_intro ⟨keeps_nil, ?_⟩) | (refine later_intro ⟨keeps_refl, ?_⟩) | (with_reducible refine keeps_go ?_ ?_; focus (first | (simp [keeps_cons, keeps_none, objs_app, objs_app0]; done) | (simp only [keeps_cons, keeps_none, objs_app0, objs_app, and_true]; first | rfl | exact ⟨rfl, rfl⟩ | exact ⟨rfl, rfl, rfl⟩))) | (with_reducible refine (And.intro (a := keeps _ _ _) ?_ ?_); focus (first | (simp [keeps_cons, keeps_none, objs_app, objs_app0]; done) | (simp only [keeps_cons, keeps_none, objs_app0, objs_app, and_true]; first | rfl | exact ⟨rfl, rfl⟩ | exact ⟨rfl, rfl, rfl⟩))) | (refine both_ways ?_ ?_) | (rw [wrap_i64 (by omega) (by omega)]) | (refine guardV_split (fun h => ?_) (fun h => ?_) <;> (try rw [h]) <;> (try simp at h) <;> (try (exfalso; omega))) | (with_reducible refine keeps_go ?_ ?_; focus (simp [keeps_cons, keeps_none, objs_app, objs_app0, ob3, ob4]; done)) | (with_reducible refine (And.intro (a := keeps _ _ _) ?_ ?_); focus (simp [keeps_cons, keeps_none, objs_app, objs_app0, ob3, ob4]; done)))
          refine trput_c h4 hBi fun s5 h5 => ?_
          have hne : ((bput (bputs B c i) { c with num := 1000 + (i : Int) }).2 != (bput (bputs B c i) { c with num := 1000 + (i : Int) }).2) = false := by simp
          repeat' (first | (simp -dsimp only [↓reduceIte, go_sem, t0, t1, t5, t11, t12, hne]) | (refine arr_intro fun _ => ?_) | (refine later_intro ⟨keeps_nil, ?_⟩) | (refine later_intro ⟨keeps_refl, ?_⟩) | (with_reducible refine keeps_go ?_ ?_; focus (first | (simp [keeps_cons, keeps_none, objs_app, objs_app0]; done) | (simp only [keeps_cons, keeps_none, objs_app0, objs_app, and_true]; first | rfl | exact ⟨rfl, rfl⟩ | exact ⟨rfl, rfl, rfl⟩))) | (with_reducible refine (And.intro (a := keeps _ _ _) ?_ ?_); focus (first | (simp [keeps_cons, keeps_none, objs_app, objs_app0]; done) | (simp only [keeps_cons, keeps_none, objs_app0, objs_app, and_true]; first | rfl | exact ⟨rfl, rfl⟩ | exact ⟨rfl, rfl, rfl⟩))) | (refine both_ways ?_ ?_) | (rw [wrap_i64 (by omega) (by omega)]) | (refine guardV_split (fun h => ?_) (fun h => ?_) <;> (try rw [h]) <;> (try simp at h) <;> (try (exfalso; omega))))
          refine later_intro ⟨i + 1, by omega, 1000 + (i : Int), by omega, h5, ?_, ?_, ?_, ?_, ?_⟩ <;> (try simp only [go_sem, t0, t1, t5, t11, t12]) <;> (try rfl)
        · have hfin : i = (min a.number 90).toNat := by omega
          rw [hfin] at hT
          have hlt' : (¬ (i : Int) < a.number ∧ True) ∨ ((i : Int) < a.number ∧ ¬ (i : Int) < 90) := by
            by_cases h : (i : Int) < a.number
            · exact .inr ⟨h, by omega⟩
            · exact .inl ⟨h, trivial⟩
          rcases hlt' with ⟨hlt1, hlt2⟩ | ⟨hlt1, hlt2⟩
          all_goals
            repeat' (first | (simp -dsimp only [↓reduceIte, go_sem, t0, t1, t5, t11, t12, hlt1, hlt2, cact, cb]) | (refine arr_intro fun _ => ?_) | (refine later_intro ⟨keeps_nil, ?_⟩) | (refine later_intro ⟨keeps_refl, ?_⟩) | (with_reducible refine keeps_go ?_ ?_; focus (first | (simp [keeps_cons, keeps_none, objs_app, objs_app0]; done) | (simp only [keeps_cons, keeps_none, objs_app0, objs_app, and_true]; first | rfl | exact ⟨rfl, rfl⟩ | exact ⟨rfl, rfl, rfl⟩))) | (with_reducible refine (And.intro (a := keeps _ _ _) ?_ ?_); focus (first | (simp [keeps_cons, keeps_none, objs_app, objs_app0]; done) | (simp only [keeps_cons, keeps_none, objs_app0, objs_app, and_true]; first | rfl | exact ⟨rfl, rfl⟩ | exact ⟨rfl, rfl, rfl⟩))) | (refine both_ways ?_ ?_) | (rw [wrap_i64 (by omega) (by omega)]) | (refine guardV_split (fun h => ?_) (fun h => ?_) <;> (try rw [h]) <;> (try simp at h) <;> (try (exfalso; omega))))
            exact hK _ hT.less.less
    · have hl1 : ¬ ((a.b.cipher.length : Nat) : Int) > 400 := by omega
      have hc : ({ a.b with cipher := a.b.cipher.take 400 } : Blob) = a.b := by rw [List.take_of_length_le (by omega)]
      rw [hc] at hK
      refine tcalls_walk Try.f14 _ [.tmp 6] Try.func14 rfl rfl rfl mixed (Nat.le_of_ble_eq_true rfl) rfl fun hlen => ?_
      repeat' (first | (simp -dsimp only [↓reduceIte, go_sem, ca, h3, h4, h5, hl1]) | (refine arr_intro fun _ => ?_) | (refine later_intro ⟨keeps_nil, ?_⟩) | (refine later_intro ⟨keeps_refl, ?_⟩) | (with_reducible refine keeps_go ?_ ?_; focus (first | (simp [keeps_cons, keeps_none, objs_app, objs_app0]; done) | (simp only [keeps_cons, keeps_none, objs_app0, objs_app, and_true]; first | rfl | exact ⟨rfl, rfl⟩ | exact ⟨rfl, rfl, rfl⟩))) | (with_reducible refine (And.intro (a := keeps _ _ _) ?_ ?_); focus (first | (simp [keeps_cons, keeps_none, objs_app, objs_app0]; done) | (simp only [keeps_cons, keeps_none, objs_app0, objs_app, and_true]; first | rfl | exact ⟨rfl, rfl⟩ | exact ⟨rfl, rfl, rfl⟩))) | (refine both_ways ?_ ?_) | (rw [wrap_i64 (by omega) (by omega)]) | (refine guardV_split (fun h => ?_) (fun h => ?_) <;> (try rw [h]) <;> (try simp at h) <;> (try (exfalso; omega))))
      have hT0 := hc2 a.b
      generalize s.app [.cells (.agg (actPs t a)), .cells (.agg (blobPs a.b))] = S at hT0 ⊢
      refine awp_rounds (fun (i : Nat) τ s' => ∃ n, (i : Int) ≤ max 0 (min a.number 90) ∧ Tw σ0 s' j mi k (bputs B a.b i) (bputs B a.b i) ((s.objs.length + 1, .cells (.agg (blobPs { a.b with num := n }))) :: (s.objs.length, .cells (.agg (actPs t a))) :: F) ∧ τ 0 = .ptr (some (j, [])) ∧ τ 1 = .ptr (some (k, [])) ∧ τ 5 = .ptr (some (s.objs.length, [])) ∧ τ 11 = .ptr (some (s.objs.length + 1, [])) ∧ τ 12 = .int .i64 i) (fun i => 90 - i) 0 ?_ ?_
      · refine ⟨a.b.num, by omega, hT0, ?_, ?_, ?_, ?_, ?_⟩ <;> (try simp only [go_sem]) <;> (try rfl)
      · rintro i τ s' ⟨n, hi, hT, t0, t1, t5, t11, t12⟩
        have oact := (hT.less.p.f _ (List.mem_cons_self ..)).2.2
        have ob := (hT.p.f _ (List.mem_cons_self ..)).2.2
        dsimp only at oact ob
        have cact := cellAt_known oact
        have cb := cellAt_known ob
        have hBi := bputs_ok hB (b := a.b) i
        by_cases hlt : (i : Int) < a.number ∧ i < 90
        · have hlt1 : (i : Int) < a.number := hlt.1
          have hlt2 : (i : Int) < 90 := by omega
          have w1 : IntKind.i64.wrap (1000 + (i : Int)) = 1000 + (i : Int) := wrap_i64 (by omega) (by omega)
          have hT2 := hT.setF (o' := .cells (.agg (blobPs { a.b with num := 1000 + (i : Int) }))) (fun x hx => by
            rcases List.mem_cons.1 hx with rfl | hx
            · exact Nat.ne_of_lt (Nat.lt_succ_self _)
            · have := hFl x hx; omega) (by omega)
          repeat' (first | (simp -dsimp only [↓reduceIte, go_sem, t0, t1, t5, t11, t12, hlt1, hlt2, cact, cb, ob, w1]) | (refine arr_intro fun _ => ?_) | (refine later_intro ⟨keeps_nil, ?_⟩) | (refine later_intro ⟨keeps_refl, ?_⟩) | (with_reducible refine keeps_go ?_ ?_; focus (first | (simp [keeps_cons, keeps_none, objs_app, objs_app0]; done) | (simp only [keeps_cons, keeps_none, objs_app0, objs_app, and_true]; first | rfl | exact ⟨rfl, rfl⟩ | exact ⟨rfl, rfl, rfl⟩))) | (with_reducible refine (And.intro (a := keeps _ _ _) ?_ ?_); focus (first | (simp [keeps_cons, keeps_none, objs_app, objs_app0]; done) | (simp only [keeps_cons, keeps_none, objs_app0, objs_app, and_true]; first | rfl | exact ⟨rfl, rfl⟩ | exact ⟨rfl, rfl, rfl⟩))) | (refine both_ways ?_ ?_) | (rw [wrap_i64 (by omega) (by omega)]) | (refine guardV_split (fun h => ?_) (fun h => ?_) <;> (try rw [h]) <;> (try simp at h) <;> (try (exfalso; omega))))
          generalize s'.set (s.objs.length + 1) (.cells (.agg (blobPs { a.b with num := 1000 + (i : Int) }))) = s3 at hT2 ⊢
          have ob3 := (hT2.p.f _ (List.mem_cons_self ..)).2.2
          dsimp only at ob3
          have cb3 := cellAt_known ob3
          repeat' (first | (simp -dsimp only [↓reduceIte, go_sem, t0, t1, t5, t11, t12, cb3]) | (refine arr_intro fun _ => ?_) | (refine later_intro ⟨keeps_nil, ?_⟩) | (refine later_intro ⟨keeps_refl, ?_⟩) | (with_reducible refine keeps_go ?_ ?_; focus (first | (simp [keeps_cons, keeps_none, objs_app, objs_app0]; done) | (simp only [keeps_cons, keeps_none, objs_app0, objs_app, and_true]; first | rfl | exact ⟨rfl, rfl⟩ | exact ⟨rfl, rfl, rfl⟩))) | (with_reducible refine (And.intro (a := keeps _ _ _) ?_ ?_); focus (first | (simp [keeps_cons, keeps_none, objs_app, objs_app0]; done) | (simp only [keeps_cons, keeps_none, objs_app0, objs_app, and_true]; first | rfl | exact ⟨rfl, rfl⟩ | exact ⟨rfl, rfl, rfl⟩))) | (refine both_ways ?_ ?_) | (rw [wrap_i64 (by omega) (by omega)]) | (refine guardV_split (fun h => ?_) (fun h => ?_) <;> (try rw [h]) <;> (try simp at h) <;> (try (exfalso; omega))) | (with_reducible refine awp_drawU (id := 21) (.op 0 2 (.op 1 2 (.op 3 0 (.op 4 0 (.op 2 1 (.cut (.op 5 1 (.op 6 2 .nil)))))))) (by kernel_rfl) ?_))
          refine tput_c hT2 hBi fun s4 h4 => ?_
          have ob4 := (h4.p.f _ (List.mem_cons_self ..)).2.2
          dsimp only at ob4
          have cb4 := cellAt_known ob4
          repeat' (first | (simp -dsimp only [↓reduceIte, go_sem, t0, t1, t5, t11, t12, cb4]) | (refine arr_intro fun _ => ?_) | (refine later_intro ⟨keeps_nil, ?_⟩) | (refine later_intro ⟨keeps_refl, ?_⟩) | (with_reducible refine keeps_go ?_ ?_; focus (first | (simp [keeps_cons, keeps_none, objs_app, objs_app0]; done) | (simp only [keeps_cons, keeps_none, objs_app0, objs_app, and_true]; first | rfl | exact ⟨rfl, rfl⟩ | exact ⟨rfl, rfl, rfl⟩))) | (with_reducible refine (And.intro (a := keeps _ _ _) ?_ ?_); focus (first | (simp [keeps_cons, keeps_none, objs_app, objs_app0]; done) | (simp only [keeps_cons, keeps_none, objs_app0, objs_app, and_true]; first | rfl | exact ⟨rfl, rfl⟩ | exact ⟨rfl, rfl, rfl⟩))) | (refine both_ways ?_ ?_) | (rw [wrap_i64 (by omega) (by omega)]) | (refine guardV_split (fun h => ?_) (fun h => ?_) <;> (try rw [h]) <;> (try simp at h) <;> (try (exfalso; omega))) | (with_reducible refine keeps_go ?_ ?_; focus (simp [keeps_cons, keeps_none, objs_app, objs_app0, ob3, ob4]; done)) | (with_reducible refine (And.intro (a := keeps _ _ _) ?_ ?_); focus (simp [keeps_cons, keeps_none, objs_app, objs_app0, ob3, ob4]; done)))
          refine trput_c h4 hBi fun s5 h5 => ?_
          have hne : ((bput (bputs B a.b i) { a.b with num := 1000 + (i : Int) }).2 != (bput (bputs B a.b i) { a.b with num := 1000 + (i : Int) }).2) = false := by simp
          repeat' (first | (simp -dsimp only [↓reduceIte, go_sem, t0, t1, t5, t11, t12, hne]) | (refine arr_intro fun _ => ?_) | (refine later_intro ⟨keeps_nil, ?_⟩) | (refine later_intro ⟨keeps_refl, ?_⟩) | (with_reducible refine keeps_go ?_ ?_; focus (first | (simp [keeps_cons, keeps_none, objs_app, objs_app0]; done) | (simp only [keeps_cons, keeps_none, objs_app0, objs_app, and_true]; first | rfl | exact ⟨rfl, rfl⟩ | exact ⟨rfl, rfl, rfl⟩))) | (with_reducible refine (And.intro (a := keeps _ _ _) ?_ ?_); focus (first | (simp [keeps_cons, keeps_none, objs_app, objs_app0]; done) | (simp only [keeps_cons, keeps_none, objs_app0, objs_app, and_true]; first | rfl | exact ⟨rfl, rfl⟩ | exact ⟨rfl, rfl, rfl⟩))) | (refine both_ways ?_ ?_) | (rw [wrap_i64 (by omega) (by omega)]) | (refine guardV_split (fun h => ?_) (fun h => ?_) <;> (try rw [h]) <;> (try simp at h) <;> (try (exfalso; omega))))
          refine later_intro ⟨i + 1, by omega, 1000 + (i : Int), by omega, h5, ?_, ?_, ?_, ?_, ?_⟩ <;> (try simp only [go_sem, t0, t1, t5, t11, t12]) <;> (try rfl)
        · have hfin : i = (min a.number 90).toNat := by omega
          rw [hfin] at hT
          have hlt' : (¬ (i : Int) < a.number ∧ True) ∨ ((i : Int) < a.number ∧ ¬ (i : Int) < 90) := by
            by_cases h : (i : Int) < a.number
            · exact .inr ⟨h, by omega⟩
            · exact .inl ⟨h, trivial⟩
          rcases hlt' with ⟨hlt1, hlt2⟩ | ⟨hlt1, hlt2⟩
          all_goals
            repeat' (first | (simp -dsimp only [↓reduceIte, go_sem, t0, t1, t5, t11, t12, hlt1, hlt2, cact, cb]) | (refine arr_intro fun _ => ?_) | (refine later_intro ⟨keeps_nil, ?_⟩) | (refine later_intro ⟨keeps_refl, ?_⟩) | (with_reducible refine keeps_go ?_ ?_; focus (first | (simp [keeps_cons, keeps_none, objs_app, objs_app0]; done) | (simp only [keeps_cons, keeps_none, objs_app0, objs_app, and_true]; first | rfl | exact ⟨rfl, rfl⟩ | exact ⟨rfl, rfl, rfl⟩))) | (with_reducible refine (And.intro (a := keeps _ _ _) ?_ ?_); focus (first | (simp [keeps_cons, keeps_none, objs_app, objs_app0]; done) | (simp only [keeps_cons, keeps_none, objs_app0, objs_app, and_true]; first | rfl | exact ⟨rfl, rfl⟩ | exact ⟨rfl, rfl, rfl⟩))) | (refine both_ways ?_ ?_) | (rw [wrap_i64 (by omega) (by omega)]) | (refine guardV_split (fun h => ?_) (fun h => ?_) <;> (try rw [h]) <;> (try simp at h) <;> (try (exfalso; omega))))
            exact hK _ hT.less.less
  · have hd : bdo B a = (bput B a.b).1 := by unfold bdo; rw [if_neg h3, if_neg h4, if_neg h5]
    rw [hd] at hK
    refine tcalls_walk Try.f14 _ [.tmp 6] Try.func14 rfl rfl rfl mixed (Nat.le_of_ble_eq_true rfl) rfl fun hlen => ?_
    repeat' (first | (simp -dsimp only [↓reduceIte, go_sem, ca, h3, h4, h5]) | (refine arr_intro fun _ => ?_) | (refine later_intro ⟨keeps_nil, ?_⟩) | (refine later_intro ⟨keeps_refl, ?_⟩) | (with_reducible refine keeps_go ?_ ?_; focus (first | (simp [keeps_cons, keeps_none, objs_app, objs_app0]; done) | (simp only [keeps_cons, keeps_none, objs_app0, objs_app, and_true]; first | rfl | exact ⟨rfl, rfl⟩ | exact ⟨rfl, rfl, rfl⟩))) | (with_reducible refine (And.intro (a := keeps _ _ _) ?_ ?_); focus (first | (simp [keeps_cons, keeps_none, objs_app, objs_app0]; done) | (simp only [keeps_cons, keeps_none, objs_app0, objs_app, and_true]; first | rfl | exact ⟨rfl, rfl⟩ | exact ⟨rfl, rfl, rfl⟩))) | (refine both_ways ?_ ?_) | (rw [wrap_i64 (by omega) (by omega)]) | (refine guardV_split (fun h => ?_) (fun h => ?_) <;> (try rw [h]) <;> (try simp at h) <;> (try (exfalso; omega))) | (with_reducible refine awp_drawU (id := 24) (.op 0 2 (.op 1 2 (.op 2 2 (.op 4 0 (.op 5 0 (.op 6 0 (.op 3 1 (.cut (.op 7 1 (.op 8 2 (.op 9 2 .nil))))))))))) (by kernel_rfl) ?_))
    refine tput_c hb hB fun s1 h1 => ?_
    have o1 := (h1.p.f _ (List.mem_cons_self ..)).2.2
    have c1 := cellAt_known o1
    dsimp only at o1 ha
    repeat' (first | (simp -dsimp only [↓reduceIte, go_sem, c1]) | (refine arr_intro fun _ => ?_) | (refine later_intro ⟨keeps_nil, ?_⟩) | (refine later_intro ⟨keeps_refl, ?_⟩) | (with_reducible refine keeps_go ?_ ?_; focus (first | (simp [keeps_cons, keeps_none, objs_app, objs_app0]; done) | (simp only [keeps_cons, keeps_none, objs_app0, objs_app, and_true]; first | rfl | exact ⟨rfl, rfl⟩ | exact ⟨rfl, rfl, rfl⟩))) | (with_reducible refine (And.intro (a := keeps _ _ _) ?_ ?_); focus (first | (simp [keeps_cons, keeps_none, objs_app, objs_app0]; done) | (simp only [keeps_cons, keeps_none, objs_app0, objs_app, and_true]; first | rfl | exact ⟨rfl, rfl⟩ | exact ⟨rfl, rfl, rfl⟩))) | (refine both_ways ?_ ?_) | (rw [wrap_i64 (by omega) (by omega)]) | (refine guardV_split (fun h => ?_) (fun h => ?_) <;> (try rw [h]) <;> (try simp at h) <;> (try (exfalso; omega))) | (with_reducible refine keeps_go ?_ ?_; focus (simp [keeps_cons, keeps_none, objs_app, objs_app0, ha, o1]; done)) | (with_reducible refine (And.intro (a := keeps _ _ _) ?_ ?_); focus (simp [keeps_cons, keeps_none, objs_app, objs_app0, ha, o1]; done)))
    refine trput_c h1 hB fun s2 h2 => ?_
    repeat' (first | (simp -dsimp only [↓reduceIte, go_sem]) | (refine arr_intro fun _ => ?_) | (refine later_intro ⟨keeps_nil, ?_⟩) | (refine later_intro ⟨keeps_refl, ?_⟩) | (with_reducible refine keeps_go ?_ ?_; focus (first | (simp [keeps_cons, keeps_none, objs_app, objs_app0]; done) | (simp only [keeps_cons, keeps_none, objs_app0, objs_app, and_true]; first | rfl | exact ⟨rfl, rfl⟩ | exact ⟨rfl, rfl, rfl⟩))) | (with_reducible refine (And.intro (a := keeps _ _ _) ?_ ?_); focus (first | (simp [keeps_cons, keeps_none, objs_app, objs_app0]; done) | (simp only [keeps_cons, keeps_none, objs_app0, objs_app, and_true]; first | rfl | exact ⟨rfl, rfl⟩ | exact ⟨rfl, rfl, rfl⟩))) | (refine both_ways ?_ ?_) | (rw [wrap_i64 (by omega) (by omega)]) | (refine guardV_split (fun h => ?_) (fun h => ?_) <;> (try rw [h]) <;> (try simp at h) <;> (try (exfalso; omega))))
    exact hK _ h2.less
end
end Go.Aff.L10

