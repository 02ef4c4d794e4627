import Derived.Test.YtjhldllkjmlabaaG28
import Derived.Test.YtjhldllkjmlabaaG26

set_option linter.unusedSimpArgs false
set_option linter.unusedVariables false

/- Layer 11: BlobsDo, BlobsApart, BlobsWithin. -/
-- cuts
namespace Go.Aff.L10
open Go.Proofs Go.Aff Go.Aff.L01 Classical
set_option linter.unusedVariables false
set_option linter.unusedSimpArgs false
set_option maxRecDepth 20000
attribute [local go_sem] push_app app_app length_app cellAt_app cellAt_app0 set_app set_app0 objs_app objs_app0 List.cons_append List.nil_append List.length_cons List.length_nil List.getElem?_cons_zero List.getElem?_cons_succ List.set_cons_zero List.set_cons_succ List.length_map
attribute [-go_sem] cellAt_new
attribute [-simp] List.length_flatMap
attribute [local go_sem] Try.underlying3 Try.underlying4 Try.underlying5 Try.underlying9 Try.underlying24 Try.underlying43 Try.underlying37 Try.underlying22 Try.underlying32 blobPs_0 blobAt_0 blobSet_0 blobPs_1 blobAt_1 blobSet_1 blobPs_2 blobAt_2 blobSet_2 blobPs_3 blobAt_3 blobSet_3 sizes_blob shapes_blob fits_blob zero_blob zt_blob built_blob Try.underlying26 bkeyPs_0 bkeyAt_0 bkeySet_0 bkeyPs_1 bkeyAt_1 bkeySet_1 sizes_bkey shapes_bkey fits_bkey zero_bkey zt_bkey built_bkey Try.underlying56 rstPs_0 rstAt_0 rstSet_0 sizes_rst shapes_rst fits_rst zero_rst zt_rst built_rst Try.underlying45 actPs_0 actAt_0 actSet_0 actPs_1 actAt_1 actSet_1 actPs_2 actAt_2 actSet_2 actPs_3 actAt_3 actSet_3 actPs_4 actAt_4 actSet_4 sizes_act shapes_act fits_act zero_act zt_act built_act Try.underlying42
attribute [local go_sem] fits3 fits4 fits5 fits9 fits23 fits26 fits31 fits34 zt3 zero3 bin_blob_eql bin_blob_neq
attribute [local go_sem ↓] blockQ_exit2
attribute [local simp] dig_ext
attribute [local go_sem] fits58 stAt zero60 zt60 built60 fits60 shape_mp Try.underlying58 Try.underlying60 Try.underlying27 Try.underlying28
attribute [local go_sem] fits_bkey zero_bkey zt_bkey built_bkey
theorem same_c {σ0 σ1 s : AST} {j mi k : Nat} {B C : List Blob} {F F' : List (Nat × AObj)} {K : AV → AST → Prop} (h : SF σ0 s j mi B F) (hq : RB σ1 s k C F') (hB : BOk B) (hC : BOk C) {o : Int} (h1 : usedN B o = usedN C o) (h2 : usedB B o = usedB C o) (h3 : numsB B o = numsB C o) (hK : ∀ s', Ext s s' → K (.bool true) s') :
    TCalls Try.prog 13 [.ptr (some (j, [])), .ptr (some (k, [])), .int .i64 o] s K := by
  have e1 : (((usedN C o : Nat) : Int) == (usedN C o : Nat)) = true := by simp
  have e2 : (((usedB C o : Nat) : Int) == (usedB C o : Nat)) = true := by simp
  have e3 : decide (numsB C o = numsB C o) = true := by simp
  refine tcalls_walk Try.f13 _ [.tmp 6] Try.func13 rfl rfl rfl mixed (Nat.le_of_ble_eq_true rfl) rfl fun hlen => ?_
  repeat' (first | (simp -dsimp only [↓reduceIte, go_sem]) | (refine arr_intro fun _ => ?_) | (refine later_intro ⟨keeps_nil, ?_⟩) | (refine later_intro ⟨keeps_refl, ?_⟩) | (with_reducible refine keeps_go ?_ ?_; focus (first | (simp [keeps_cons, keeps_none, objs_app, objs_app0]; done) | (simp only [keeps_cons, keeps_none, objs_app0, objs_app, and_true]; first | rfl | exact ⟨rfl, rfl⟩ | exact ⟨rfl, rfl, rfl⟩))) | (with_reducible refine (And.intro (a := keeps _ _ _) ?_ ?_); focus (first | (simp [keeps_cons, keeps_none, objs_app, objs_app0]; done) | (simp only [keeps_cons, keeps_none, objs_app0, objs_app, and_true]; first | rfl | exact ⟨rfl, rfl⟩ | exact ⟨rfl, rfl, rfl⟩))) | (refine both_ways ?_ ?_) | (rw [wrap_i64 (by omega) (by omega)]) | (refine guardV_split (fun h => ?_) (fun h => ?_) <;> (try rw [h]) <;> (try simp at h) <;> (try (exfalso; omega))))
  refine sused_c h hB fun s1 hx => ?_
  have hq1 := hq.ext hx
  have h1' := h.ext hx
  repeat' (first | (simp -dsimp only [↓reduceIte, go_sem, h1, h2, e1, e2]) | (refine arr_intro fun _ => ?_) | (refine later_intro ⟨keeps_nil, ?_⟩) | (refine later_intro ⟨keeps_refl, ?_⟩) | (with_reducible refine keeps_go ?_ ?_; focus (first | (simp [keeps_cons, keeps_none, objs_app, objs_app0]; done) | (simp only [keeps_cons, keeps_none, objs_app0, objs_app, and_true]; first | rfl | exact ⟨rfl, rfl⟩ | exact ⟨rfl, rfl, rfl⟩))) | (with_reducible refine (And.intro (a := keeps _ _ _) ?_ ?_); focus (first | (simp [keeps_cons, keeps_none, objs_app, objs_app0]; done) | (simp only [keeps_cons, keeps_none, objs_app0, objs_app, and_true]; first | rfl | exact ⟨rfl, rfl⟩ | exact ⟨rfl, rfl, rfl⟩))) | (refine both_ways ?_ ?_) | (rw [wrap_i64 (by omega) (by omega)]) | (refine guardV_split (fun h => ?_) (fun h => ?_) <;> (try rw [h]) <;> (try simp at h) <;> (try (exfalso; omega))) | ((refine rused_c hq1 hC ?_)))
  refine snum_c h1' hB ?_
  rw [h3]
  repeat' (first | (simp -dsimp only [↓reduceIte, go_sem]) | (refine arr_intro fun _ => ?_) | (refine later_intro ⟨keeps_nil, ?_⟩) | (refine later_intro ⟨keeps_refl, ?_⟩) | (with_reducible refine keeps_go ?_ ?_; focus (first | (simp [keeps_cons, keeps_none, objs_app, objs_app0]; done) | (simp only [keeps_cons, keeps_none, objs_app0, objs_app, and_true]; first | rfl | exact ⟨rfl, rfl⟩ | exact ⟨rfl, rfl, rfl⟩))) | (with_reducible refine (And.intro (a := keeps _ _ _) ?_ ?_); focus (first | (simp [keeps_cons, keeps_none, objs_app, objs_app0]; done) | (simp only [keeps_cons, keeps_none, objs_app0, objs_app, and_true]; first | rfl | exact ⟨rfl, rfl⟩ | exact ⟨rfl, rfl, rfl⟩))) | (refine both_ways ?_ ?_) | (rw [wrap_i64 (by omega) (by omega)]) | (refine guardV_split (fun h => ?_) (fun h => ?_) <;> (try rw [h]) <;> (try simp at h) <;> (try (exfalso; omega))))
  refine rnum_c hq1 hC fun s2 t hx2 => ?_
  repeat' (first | (simp -dsimp only [↓reduceIte, go_sem]) | (refine arr_intro fun _ => ?_) | (refine later_intro ⟨keeps_nil, ?_⟩) | (refine later_intro ⟨keeps_refl, ?_⟩) | (with_reducible refine keeps_go ?_ ?_; focus (first | (simp [keeps_cons, keeps_none, objs_app, objs_app0]; done) | (simp only [keeps_cons, keeps_none, objs_app0, objs_app, and_true]; first | rfl | exact ⟨rfl, rfl⟩ | exact ⟨rfl, rfl, rfl⟩))) | (with_reducible refine (And.intro (a := keeps _ _ _) ?_ ?_); focus (first | (simp [keeps_cons, keeps_none, objs_app, objs_app0]; done) | (simp only [keeps_cons, keeps_none, objs_app0, objs_app, and_true]; first | rfl | exact ⟨rfl, rfl⟩ | exact ⟨rfl, rfl, rfl⟩))) | (refine both_ways ?_ ?_) | (rw [wrap_i64 (by omega) (by omega)]) | (refine guardV_split (fun h => ?_) (fun h => ?_) <;> (try rw [h]) <;> (try simp at h) <;> (try (exfalso; omega))))
  refine ints_c ?_
  repeat' (first | (simp -dsimp only [↓reduceIte, go_sem, e3]) | (refine arr_intro fun _ => ?_) | (refine later_intro ⟨keeps_nil, ?_⟩) | (refine later_intro ⟨keeps_refl, ?_⟩) | (with_reducible refine keeps_go ?_ ?_; focus (first | (simp [keeps_cons, keeps_none, objs_app, objs_app0]; done) | (simp only [keeps_cons, keeps_none, objs_app0, objs_app, and_true]; first | rfl | exact ⟨rfl, rfl⟩ | exact ⟨rfl, rfl, rfl⟩))) | (with_reducible refine (And.intro (a := keeps _ _ _) ?_ ?_); focus (first | (simp [keeps_cons, keeps_none, objs_app, objs_app0]; done) | (simp only [keeps_cons, keeps_none, objs_app0, objs_app, and_true]; first | rfl | exact ⟨rfl, rfl⟩ | exact ⟨rfl, rfl, rfl⟩))) | (refine both_ways ?_ ?_) | (rw [wrap_i64 (by omega) (by omega)]) | (refine guardV_split (fun h => ?_) (fun h => ?_) <;> (try rw [h]) <;> (try simp at h) <;> (try (exfalso; omega))))
  exact hK _ (hx.trans hx2)
theorem blobsDo_c {ta : Tk} {la : List AV} (hla : ∀ v ∈ la, IsAct11 v) {o : Int} {σ : AST} {K : AV → AST → Prop} (hK : K (.bool true) σ) : TCalls Try.prog 4 [.slice ta la, .int .i64 o] σ K := by
  refine TCalls.drop ?_
  have fin : ∀ s', Ext σ s' → Ext σ s' ∧ (AV.bool true).noRef = true ∧ K (AV.bool true).strip σ := fun s' hx => ⟨hx, rfl, by simpa [AV.strip] using hK⟩
  refine tcalls_walk Try.f4 _ [.tmp 4] Try.func4 rfl rfl rfl mixed (Nat.le_of_ble_eq_true rfl) rfl fun hlen => ?_
  repeat' (first | (simp -dsimp only [↓reduceIte, go_sem]) | (refine arr_intro fun _ => ?_) | (refine later_intro ⟨keeps_nil, ?_⟩) | (refine later_intro ⟨keeps_refl, ?_⟩) | (with_reducible refine keeps_go ?_ ?_; focus (first | (simp [keeps_cons, keeps_none, objs_app, objs_app0]; done) | (simp only [keeps_cons, keeps_none, objs_app0, objs_app, and_true]; first | rfl | exact ⟨rfl, rfl⟩ | exact ⟨rfl, rfl, rfl⟩))) | (with_reducible refine (And.intro (a := keeps _ _ _) ?_ ?_); focus (first | (simp [keeps_cons, keeps_none, objs_app, objs_app0]; done) | (simp only [keeps_cons, keeps_none, objs_app0, objs_app, and_true]; first | rfl | exact ⟨rfl, rfl⟩ | exact ⟨rfl, rfl, rfl⟩))) | (refine both_ways ?_ ?_) | (rw [wrap_i64 (by omega) (by omega)]) | (refine guardV_split (fun h => ?_) (fun h => ?_) <;> (try rw [h]) <;> (try simp at h) <;> (try (exfalso; omega))))
  refine made_c hla fun s1 j mi k B hT hB => ?_
  repeat' (first | (simp -dsimp only [↓reduceIte, go_sem]) | (refine arr_intro fun _ => ?_) | (refine later_intro ⟨keeps_nil, ?_⟩) | (refine later_intro ⟨keeps_refl, ?_⟩) | (with_reducible refine keeps_go ?_ ?_; focus (first | (simp [keeps_cons, keeps_none, objs_app, objs_app0]; done) | (simp only [keeps_cons, keeps_none, objs_app0, objs_app, and_true]; first | rfl | exact ⟨rfl, rfl⟩ | exact ⟨rfl, rfl, rfl⟩))) | (with_reducible refine (And.intro (a := keeps _ _ _) ?_ ?_); focus (first | (simp [keeps_cons, keeps_none, objs_app, objs_app0]; done) | (simp only [keeps_cons, keeps_none, objs_app0, objs_app, and_true]; first | rfl | exact ⟨rfl, rfl⟩ | exact ⟨rfl, rfl, rfl⟩))) | (refine both_ways ?_ ?_) | (rw [wrap_i64 (by omega) (by omega)]) | (refine guardV_split (fun h => ?_) (fun h => ?_) <;> (try rw [h]) <;> (try simp at h) <;> (try (exfalso; omega))) | ((refine awake_c ?_)))
  refine awp_rounds (fun (i : Nat) τ s' => i ≤ 10 ∧ Ext s1 s' ∧ τ 1 = .int .i64 o ∧ τ 5 = .ptr (some (j, [])) ∧ τ 6 = .ptr (some (k, [])) ∧ τ 8 = .int .i64 ((i : Int) - 1)) (fun i => 10 - i) 0 ?_ ?_
  · refine ⟨by omega, Ext.refl _, ?_, ?_, ?_, ?_⟩ <;> (try simp only [go_sem]) <;> (try rfl)
  · rintro i τ s' ⟨hi, hx, t1, t5, t6, t8⟩
    have hT' := hT.ext hx
    by_cases hlt : i < 10
    · have hlt1 : (i : Int) - 1 < 9 := by omega
      have w1 : IntKind.i64.wrap ((i : Int) - 1 + 1) = ((i + 1 : Nat) : Int) - 1 := by rw [wrap_i64 (by omega) (by omega)]; omega
      repeat' (first | (simp -dsimp only [↓reduceIte, go_sem, t1, t5, t6, t8, hlt1]) | (refine arr_intro fun _ => ?_) | (refine later_intro ⟨keeps_nil, ?_⟩) | (refine later_intro ⟨keeps_refl, ?_⟩) | (with_reducible refine keeps_go ?_ ?_; focus (first | (simp [keeps_cons, keeps_none, objs_app, objs_app0]; done) | (simp only [keeps_cons, keeps_none, objs_app0, objs_app, and_true]; first | rfl | exact ⟨rfl, rfl⟩ | exact ⟨rfl, rfl, rfl⟩))) | (with_reducible refine (And.intro (a := keeps _ _ _) ?_ ?_); focus (first | (simp [keeps_cons, keeps_none, objs_app, objs_app0]; done) | (simp only [keeps_cons, keeps_none, objs_app0, objs_app, and_true]; first | rfl | exact ⟨rfl, rfl⟩ | exact ⟨rfl, rfl, rfl⟩))) | (refine both_ways ?_ ?_) | (rw [wrap_i64 (by omega) (by omega)]) | (refine guardV_split (fun h => ?_) (fun h => ?_) <;> (try rw [h]) <;> (try simp at h) <;> (try (exfalso; omega))))
      refine same_c hT'.p hT'.q hB hB rfl rfl rfl fun s2 hx2 => ?_
      repeat' (first | (simp -dsimp only [↓reduceIte, go_sem, t1, t5, t6, t8, w1]) | (refine arr_intro fun _ => ?_) | (refine later_intro ⟨keeps_nil, ?_⟩) | (refine later_intro ⟨keeps_refl, ?_⟩) | (with_reducible refine keeps_go ?_ ?_; focus (first | (simp [keeps_cons, keeps_none, objs_app, objs_app0]; done) | (simp only [keeps_cons, keeps_none, objs_app0, objs_app, and_true]; first | rfl | exact ⟨rfl, rfl⟩ | exact ⟨rfl, rfl, rfl⟩))) | (with_reducible refine (And.intro (a := keeps _ _ _) ?_ ?_); focus (first | (simp [keeps_cons, keeps_none, objs_app, objs_app0]; done) | (simp only [keeps_cons, keeps_none, objs_app0, objs_app, and_true]; first | rfl | exact ⟨rfl, rfl⟩ | exact ⟨rfl, rfl, rfl⟩))) | (refine both_ways ?_ ?_) | (rw [wrap_i64 (by omega) (by omega)]) | (refine guardV_split (fun h => ?_) (fun h => ?_) <;> (try rw [h]) <;> (try simp at h) <;> (try (exfalso; omega))))
      refine later_intro ⟨i + 1, by omega, ?_⟩
      (repeat' apply And.intro) <;> (try simp only [go_sem, t1, t5, t6, t8]) <;> first | rfl | omega | exact hx.trans hx2 | trivial
    · have hlt1 : ¬ (i : Int) - 1 < 9 := by omega
      repeat' (first | (simp -dsimp only [↓reduceIte, go_sem, t1, t5, t6, t8, hlt1]) | (refine arr_intro fun _ => ?_) | (refine later_intro ⟨keeps_nil, ?_⟩) | (refine later_intro ⟨keeps_refl, ?_⟩) | (with_reducible refine keeps_go ?_ ?_; focus (first | (simp [keeps_cons, keeps_none, objs_app, objs_app0]; done) | (simp only [keeps_cons, keeps_none, objs_app0, objs_app, and_true]; first | rfl | exact ⟨rfl, rfl⟩ | exact ⟨rfl, rfl, rfl⟩))) | (with_reducible refine (And.intro (a := keeps _ _ _) ?_ ?_); focus (first | (simp [keeps_cons, keeps_none, objs_app, objs_app0]; done) | (simp only [keeps_cons, keeps_none, objs_app0, objs_app, and_true]; first | rfl | exact ⟨rfl, rfl⟩ | exact ⟨rfl, rfl, rfl⟩))) | (refine both_ways ?_ ?_) | (rw [wrap_i64 (by omega) (by omega)]) | (refine guardV_split (fun h => ?_) (fun h => ?_) <;> (try rw [h]) <;> (try simp at h) <;> (try (exfalso; omega))))
      refine same_c hT'.p hT'.q hB hB rfl rfl rfl fun s2 hx2 => ?_
      repeat' (first | (simp -dsimp only [↓reduceIte, go_sem]) | (refine arr_intro fun _ => ?_) | (refine later_intro ⟨keeps_nil, ?_⟩) | (refine later_intro ⟨keeps_refl, ?_⟩) | (with_reducible refine keeps_go ?_ ?_; focus (first | (simp [keeps_cons, keeps_none, objs_app, objs_app0]; done) | (simp only [keeps_cons, keeps_none, objs_app0, objs_app, and_true]; first | rfl | exact ⟨rfl, rfl⟩ | exact ⟨rfl, rfl, rfl⟩))) | (with_reducible refine (And.intro (a := keeps _ _ _) ?_ ?_); focus (first | (simp [keeps_cons, keeps_none, objs_app, objs_app0]; done) | (simp only [keeps_cons, keeps_none, objs_app0, objs_app, and_true]; first | rfl | exact ⟨rfl, rfl⟩ | exact ⟨rfl, rfl, rfl⟩))) | (refine both_ways ?_ ?_) | (rw [wrap_i64 (by omega) (by omega)]) | (refine guardV_split (fun h => ?_) (fun h => ?_) <;> (try rw [h]) <;> (try simp at h) <;> (try (exfalso; omega))))
      exact fin _ (hT.p.x.trans (hx.trans hx2))
/-- What is one owner's. -/
noncomputable def own (B : List Blob) (o : Int) : List Blob := B.filter fun b => decide (b.owner = o)
theorem usedN_own {B : List Blob} {o : Int} : usedN B o = (own B o).length := by simp [usedN, own, List.countP_eq_length_filter]
theorem usedB_own {B : List Blob} {o : Int} : usedB B o = ((own B o).map fun b => b.cipher.length).sum := by
  induction B with
  | nil => simp [usedB, own]
  | cons b B ih =>
    have e : usedB (b :: B) o = lenOf o b + usedB B o := by simp [usedB]
    rw [e, ih]
    by_cases h : b.owner = o
    · simp [own, lenOf, h]
    · simp [own, lenOf, h]
theorem nums_own {B : List Blob} {o : Int} : numsB B o = ((own B o).map (·.num)).mergeSort fun x y => decide (x ≤ y) := rfl
theorem own_put {B : List Blob} {b : Blob} {o : Int} (h : b.owner ≠ o) : own (bput B b).1 o = own B o := by
  unfold bput
  split
  · rfl
  split
  · split <;> rfl
  · split
    · rfl
    · simp [own, h]
theorem own_erase {B : List Blob} {i : Nat} {b : Blob} {o : Int} (hb : B[i]? = some b) (h : b.owner ≠ o) : own (B.eraseIdx i) o = own B o := by
  obtain ⟨e1, e2⟩ := erase_split hb
  rw [e2]
  conv => rhs; rw [e1]
  simp [own, h]
theorem own_prune {o o' : Int} (h : o' ≠ o) : ∀ (l : List Int) (B : List Blob) (n : Nat), own (l.foldl (fun s n => ((bprune1 s.1 o' n).1, s.2 + (bprune1 s.1 o' n).2)) (B, n)).1 o = own B o
  | [], _, _ => rfl
  | x :: l, B, n => by
    rw [List.foldl_cons, own_prune h l]
    unfold bprune1
    split
    · rename_i i hf
      obtain ⟨b, hb, ho, _⟩ := bfind_some hf
      exact own_erase hb (by rw [ho]; exact h)
    · rfl
theorem own_puts {B : List Blob} {b : Blob} {o : Int} (h : b.owner ≠ o) : ∀ i, own (bputs B b i) o = own B o
  | 0 => rfl
  | i + 1 => by rw [bputs, own_put (by exact h), own_puts h i]
theorem own_do {B : List Blob} {a : Act11} {o : Int} (h1 : a.owner ≠ o) (h2 : a.b.owner ≠ o) : own (bdo B a) o = own B o := by
  unfold bdo
  split
  · exact own_prune h1 _ _ _
  split
  · rfl
  split
  · exact own_puts (by exact h2) _
  · exact own_put h2
theorem blobsApart_c {ta t : Tk} {la : List AV} (hla : ∀ v ∈ la, IsAct11 v) {a : Act11} {o : Int} {σ : AST} {K : AV → AST → Prop} (hK : K (.bool true) σ) : TCalls Try.prog 5 [.slice ta la, .agg (actPs t a), .int .i64 o] σ K := by
  refine TCalls.drop ?_
  have fin : ∀ s', Ext σ s' → Ext σ s' ∧ (AV.bool true).noRef = true ∧ K (AV.bool true).strip σ := fun s' hx => ⟨hx, rfl, by simpa [AV.strip] using hK⟩
  refine tcalls_walk Try.f5 _ [.tmp 6] Try.func5 rfl rfl rfl mixed (Nat.le_of_ble_eq_true rfl) rfl fun hlen => ?_
  have ob0 : (σ.app [.cells (.agg (actPs t a))]).objs[σ.objs.length]? = some (.cells (.agg (actPs t a))) := by rw [objs_app0]; rfl
  repeat' (first | (simp -dsimp only [↓reduceIte, go_sem]) | (refine arr_intro fun _ => ?_) | (refine later_intro ⟨keeps_nil, ?_⟩) | (refine later_intro ⟨keeps_refl, ?_⟩) | (with_reducible refine keeps_go ?_ ?_; focus (first | (simp [keeps_cons, keeps_none, objs_app, objs_app0]; done) | (simp only [keeps_cons, keeps_none, objs_app0, objs_app, and_true]; first | rfl | exact ⟨rfl, rfl⟩ | exact ⟨rfl, rfl, rfl⟩))) | (with_reducible refine (And.intro (a := keeps _ _ _) ?_ ?_); focus (first | (simp [keeps_cons, keeps_none, objs_app, objs_app0]; done) | (simp only [keeps_cons, keeps_none, objs_app0, objs_app, and_true]; first | rfl | exact ⟨rfl, rfl⟩ | exact ⟨rfl, rfl, rfl⟩))) | (refine both_ways ?_ ?_) | (rw [wrap_i64 (by omega) (by omega)]) | (refine guardV_split (fun h => ?_) (fun h => ?_) <;> (try rw [h]) <;> (try simp at h) <;> (try (exfalso; omega))))
  refine made_c hla fun s1 j mi k B hT hB => ?_
  have hx1 := hT.p.x
  have ob1 := ext_knownB hx1 ob0
  have e0 : σ.objs.length < (σ.app [AObj.cells (.agg (actPs t a))]).objs.length := by simp [AST.app]
  have h1 : Tw σ s1 j mi k B B [(σ.objs.length, .cells (.agg (actPs t a)))] := by
    have hj := hT.p.jn
    have hm := hT.p.mn
    have hk := hT.q.kn
    refine ⟨⟨(Ext.app _ _).trans hx1, by omega, by omega, hT.p.jm, hT.p.o, hT.p.om, fun x hx => ?_⟩, ⟨(Ext.app _ _).trans hx1, by omega, hT.q.o, fun x hx => ?_⟩, hT.kj, hT.km⟩
    · simp at hx; subst hx
      exact ⟨by simp only; omega, by simp only; omega, ob1⟩
    · simp at hx; subst hx
      exact ⟨by simp only; omega, ob1⟩
  clear hT hx1
  have cb := cellAt_known ob1
  by_cases g1 : a.owner = o
  · have q1 : (a.owner == o) = true := by simp [g1]
    repeat' (first | (simp -dsimp only [↓reduceIte, go_sem, cb, q1]) | (refine arr_intro fun _ => ?_) | (refine later_intro ⟨keeps_nil, ?_⟩) | (refine later_intro ⟨keeps_refl, ?_⟩) | (with_reducible refine keeps_go ?_ ?_; focus (first | (simp [keeps_cons, keeps_none, objs_app, objs_app0]; done) | (simp only [keeps_cons, keeps_none, objs_app0, objs_app, and_true]; first | rfl | exact ⟨rfl, rfl⟩ | exact ⟨rfl, rfl, rfl⟩))) | (with_reducible refine (And.intro (a := keeps _ _ _) ?_ ?_); focus (first | (simp [keeps_cons, keeps_none, objs_app, objs_app0]; done) | (simp only [keeps_cons, keeps_none, objs_app0, objs_app, and_true]; first | rfl | exact ⟨rfl, rfl⟩ | exact ⟨rfl, rfl, rfl⟩))) | (refine both_ways ?_ ?_) | (rw [wrap_i64 (by omega) (by omega)]) | (refine guardV_split (fun h => ?_) (fun h => ?_) <;> (try rw [h]) <;> (try simp at h) <;> (try (exfalso; omega))) | ((refine awake_c ?_)))
    exact fin _ h1.p.x
  by_cases g2 : a.b.owner = o
  · have q1 : (a.owner == o) = false := by simp [g1]
    have q2 : (a.b.owner == o) = true := by simp [g2]
    repeat' (first | (simp -dsimp only [↓reduceIte, go_sem, cb, q1, q2]) | (refine arr_intro fun _ => ?_) | (refine later_intro ⟨keeps_nil, ?_⟩) | (refine later_intro ⟨keeps_refl, ?_⟩) | (with_reducible refine keeps_go ?_ ?_; focus (first | (simp [keeps_cons, keeps_none, objs_app, objs_app0]; done) | (simp only [keeps_cons, keeps_none, objs_app0, objs_app, and_true]; first | rfl | exact ⟨rfl, rfl⟩ | exact ⟨rfl, rfl, rfl⟩))) | (with_reducible refine (And.intro (a := keeps _ _ _) ?_ ?_); focus (first | (simp [keeps_cons, keeps_none, objs_app, objs_app0]; done) | (simp only [keeps_cons, keeps_none, objs_app0, objs_app, and_true]; first | rfl | exact ⟨rfl, rfl⟩ | exact ⟨rfl, rfl, rfl⟩))) | (refine both_ways ?_ ?_) | (rw [wrap_i64 (by omega) (by omega)]) | (refine guardV_split (fun h => ?_) (fun h => ?_) <;> (try rw [h]) <;> (try simp at h) <;> (try (exfalso; omega))) | ((refine awake_c ?_)))
    exact fin _ h1.p.x
  have q1 : (a.owner == o) = false := by simp [g1]
  have q2 : (a.b.owner == o) = false := by simp [g2]
  obtain ⟨tk, oq⟩ := h1.q.o
  have cq := cellAt_known oq
  have h2 := h1.box (.cells (.agg (rstPs tk ⟨B⟩)))
  have cb2 := cellAt_known (h2.less.p.f _ (List.mem_cons_self ..)).2.2
  repeat' (first | (simp -dsimp only [↓reduceIte, go_sem, cb, q1, q2, cq, cb2]) | (refine arr_intro fun _ => ?_) | (refine later_intro ⟨keeps_nil, ?_⟩) | (refine later_intro ⟨keeps_refl, ?_⟩) | (with_reducible refine keeps_go ?_ ?_; focus (first | (simp [keeps_cons, keeps_none, objs_app, objs_app0]; done) | (simp only [keeps_cons, keeps_none, objs_app0, objs_app, and_true]; first | rfl | exact ⟨rfl, rfl⟩ | exact ⟨rfl, rfl, rfl⟩))) | (with_reducible refine (And.intro (a := keeps _ _ _) ?_ ?_); focus (first | (simp [keeps_cons, keeps_none, objs_app, objs_app0]; done) | (simp only [keeps_cons, keeps_none, objs_app0, objs_app, and_true]; first | rfl | exact ⟨rfl, rfl⟩ | exact ⟨rfl, rfl, rfl⟩))) | (refine both_ways ?_ ?_) | (rw [wrap_i64 (by omega) (by omega)]) | (refine guardV_split (fun h => ?_) (fun h => ?_) <;> (try rw [h]) <;> (try simp at h) <;> (try (exfalso; omega))) | ((refine awake_c ?_)))
  refine do_c h2 hB fun s3 h3 => ?_
  have hy : RB σ s3 s1.objs.length B [] := ⟨h3.p.x, by obtain ⟨O, T, rfl⟩ := h1.p.x; simp, ⟨tk, (h3.p.f _ (List.mem_cons_self ..)).2.2⟩, by simp⟩
  have ho := own_do (B := B) (a := a) g1 g2
  repeat' (first | (simp -dsimp only [↓reduceIte, go_sem]) | (refine arr_intro fun _ => ?_) | (refine later_intro ⟨keeps_nil, ?_⟩) | (refine later_intro ⟨keeps_refl, ?_⟩) | (with_reducible refine keeps_go ?_ ?_; focus (first | (simp [keeps_cons, keeps_none, objs_app, objs_app0]; done) | (simp only [keeps_cons, keeps_none, objs_app0, objs_app, and_true]; first | rfl | exact ⟨rfl, rfl⟩ | exact ⟨rfl, rfl, rfl⟩))) | (with_reducible refine (And.intro (a := keeps _ _ _) ?_ ?_); focus (first | (simp [keeps_cons, keeps_none, objs_app, objs_app0]; done) | (simp only [keeps_cons, keeps_none, objs_app0, objs_app, and_true]; first | rfl | exact ⟨rfl, rfl⟩ | exact ⟨rfl, rfl, rfl⟩))) | (refine both_ways ?_ ?_) | (rw [wrap_i64 (by omega) (by omega)]) | (refine guardV_split (fun h => ?_) (fun h => ?_) <;> (try rw [h]) <;> (try simp at h) <;> (try (exfalso; omega))))
  refine same_c h3.p hy (bdo_ok hB a) hB (by rw [usedN_own, usedN_own, ho]) (by rw [usedB_own, usedB_own, ho]) (by rw [nums_own, nums_own, ho]) fun s4 hx4 => ?_
  repeat' (first | (simp -dsimp only [↓reduceIte, go_sem]) | (refine arr_intro fun _ => ?_) | (refine later_intro ⟨keeps_nil, ?_⟩) | (refine later_intro ⟨keeps_refl, ?_⟩) | (with_reducible refine keeps_go ?_ ?_; focus (first | (simp [keeps_cons, keeps_none, objs_app, objs_app0]; done) | (simp only [keeps_cons, keeps_none, objs_app0, objs_app, and_true]; first | rfl | exact ⟨rfl, rfl⟩ | exact ⟨rfl, rfl, rfl⟩))) | (with_reducible refine (And.intro (a := keeps _ _ _) ?_ ?_); focus (first | (simp [keeps_cons, keeps_none, objs_app, objs_app0]; done) | (simp only [keeps_cons, keeps_none, objs_app0, objs_app, and_true]; first | rfl | exact ⟨rfl, rfl⟩ | exact ⟨rfl, rfl, rfl⟩))) | (refine both_ways ?_ ?_) | (rw [wrap_i64 (by omega) (by omega)]) | (refine guardV_split (fun h => ?_) (fun h => ?_) <;> (try rw [h]) <;> (try simp at h) <;> (try (exfalso; omega))))
  exact fin _ (h3.p.x.trans hx4)
theorem blobsWithin_c {ta : Tk} {la : List AV} (hla : ∀ v ∈ la, IsAct11 v) {σ : AST} {K : AV → AST → Prop} (hK : K (.bool true) σ) : TCalls Try.prog 6 [.slice ta la] σ K := by
  refine TCalls.drop ?_
  have fin : ∀ s', Ext σ s' → Ext σ s' ∧ (AV.bool true).noRef = true ∧ K (AV.bool true).strip σ := fun s' hx => ⟨hx, rfl, by simpa [AV.strip] using hK⟩
  refine tcalls_walk Try.f6 _ [.tmp 2] Try.func6 rfl rfl rfl mixed (Nat.le_of_ble_eq_true rfl) rfl fun hlen => ?_
  repeat' (first | (simp -dsimp only [↓reduceIte, go_sem]) | (refine arr_intro fun _ => ?_) | (refine later_intro ⟨keeps_nil, ?_⟩) | (refine later_intro ⟨keeps_refl, ?_⟩) | (with_reducible refine keeps_go ?_ ?_; focus (first | (simp [keeps_cons, keeps_none, objs_app, objs_app0]; done) | (simp only [keeps_cons, keeps_none, objs_app0, objs_app, and_true]; first | rfl | exact ⟨rfl, rfl⟩ | exact ⟨rfl, rfl, rfl⟩))) | (with_reducible refine (And.intro (a := keeps _ _ _) ?_ ?_); focus (first | (simp [keeps_cons, keeps_none, objs_app, objs_app0]; done) | (simp only [keeps_cons, keeps_none, objs_app0, objs_app, and_true]; first | rfl | exact ⟨rfl, rfl⟩ | exact ⟨rfl, rfl, rfl⟩))) | (refine both_ways ?_ ?_) | (rw [wrap_i64 (by omega) (by omega)]) | (refine guardV_split (fun h => ?_) (fun h => ?_) <;> (try rw [h]) <;> (try simp at h) <;> (try (exfalso; omega))))
  refine snew_c fun s1 j mi h1 => ?_
  have hl := h1.lt
  have hT : Tw σ (s1.app [.cells (.agg (rstPs .full rst0))]) j mi s1.objs.length [] [] [] := by
    have h2 := h1.ext (Ext.app s1 [.cells (.agg (rstPs .full rst0))])
    have hle : σ.objs.length ≤ s1.objs.length := by obtain ⟨O, T, rfl⟩ := h1.x; simp
    exact ⟨h2, ⟨h2.x, hle, ⟨_, by rw [objs_app0]; rfl⟩, by simp⟩, by omega, by omega⟩
  generalize hk : s1.objs.length = k at hT
  repeat' (first | (simp -dsimp only [↓reduceIte, go_sem, hk]) | (refine arr_intro fun _ => ?_) | (refine later_intro ⟨keeps_nil, ?_⟩) | (refine later_intro ⟨keeps_refl, ?_⟩) | (with_reducible refine keeps_go ?_ ?_; focus (first | (simp [keeps_cons, keeps_none, objs_app, objs_app0]; done) | (simp only [keeps_cons, keeps_none, objs_app0, objs_app, and_true]; first | rfl | exact ⟨rfl, rfl⟩ | exact ⟨rfl, rfl, rfl⟩))) | (with_reducible refine (And.intro (a := keeps _ _ _) ?_ ?_); focus (first | (simp [keeps_cons, keeps_none, objs_app, objs_app0]; done) | (simp only [keeps_cons, keeps_none, objs_app0, objs_app, and_true]; first | rfl | exact ⟨rfl, rfl⟩ | exact ⟨rfl, rfl, rfl⟩))) | (refine both_ways ?_ ?_) | (rw [wrap_i64 (by omega) (by omega)]) | (refine guardV_split (fun h => ?_) (fun h => ?_) <;> (try rw [h]) <;> (try simp at h) <;> (try (exfalso; omega))) | ((refine awake_c ?_)))
  generalize s1.app [.cells (.agg (rstPs .full rst0))] = s2 at hT ⊢
  refine awp_rounds (fun (i : Nat) τ s' => ∃ B, i ≤ la.length ∧ i ≤ 40 ∧ Tw σ s' j mi k B B [] ∧ BOk B ∧ τ 0 = .slice ta la ∧ τ 3 = .ptr (some (j, [])) ∧ τ 4 = .ptr (some (k, [])) ∧ τ 5 = .int .i64 i) (fun i => 40 - i) 0 ?_ ?_
  · refine ⟨[], by omega, by omega, hT, BOk.nil, ?_, ?_, ?_, ?_⟩ <;> (try simp only [go_sem]) <;> (try rfl)
  · rintro i τ s' ⟨B, hi, hi4, hT, hB, t0, t3, t4, t5⟩
    by_cases hlt : i < la.length ∧ i < 40
    · have hlt1 : (i : Int) < la.length := by omega
      have hlt2 : (i : Int) < 40 := by omega
      have hb : la[i]? = some la[i] := List.getElem?_eq_getElem hlt.1
      obtain ⟨t, a, ha⟩ := hla _ (List.getElem_mem hlt.1)
      rw [ha] at hb
      have w1 : IntKind.i64.wrap ((i : Int) + 1) = (i : Int) + 1 := wrap_i64 (by omega) (by omega)
      repeat' (first | (simp -dsimp only [↓reduceIte, go_sem, t0, t3, t4, t5, hlt1, hlt2]) | (refine arr_intro fun _ => ?_) | (refine later_intro ⟨keeps_nil, ?_⟩) | (refine later_intro ⟨keeps_refl, ?_⟩) | (with_reducible refine keeps_go ?_ ?_; focus (first | (simp [keeps_cons, keeps_none, objs_app, objs_app0]; done) | (simp only [keeps_cons, keeps_none, objs_app0, objs_app, and_true]; first | rfl | exact ⟨rfl, rfl⟩ | exact ⟨rfl, rfl, rfl⟩))) | (with_reducible refine (And.intro (a := keeps _ _ _) ?_ ?_); focus (first | (simp [keeps_cons, keeps_none, objs_app, objs_app0]; done) | (simp only [keeps_cons, keeps_none, objs_app0, objs_app, and_true]; first | rfl | exact ⟨rfl, rfl⟩ | exact ⟨rfl, rfl, rfl⟩))) | (refine both_ways ?_ ?_) | (rw [wrap_i64 (by omega) (by omega)]) | (refine guardV_split (fun h => ?_) (fun h => ?_) <;> (try rw [h]) <;> (try simp at h) <;> (try (exfalso; omega))) | (refine nth_get hb ?_))
      refine do_c hT hB fun s3 h3 => ?_
      have hB3 := bdo_ok hB a
      generalize bdo B a = B3 at *
      repeat' (first | (simp -dsimp only [↓reduceIte, go_sem, t0, t3, t4, t5]) | (refine arr_intro fun _ => ?_) | (refine later_intro ⟨keeps_nil, ?_⟩) | (refine later_intro ⟨keeps_refl, ?_⟩) | (with_reducible refine keeps_go ?_ ?_; focus (first | (simp [keeps_cons, keeps_none, objs_app, objs_app0]; done) | (simp only [keeps_cons, keeps_none, objs_app0, objs_app, and_true]; first | rfl | exact ⟨rfl, rfl⟩ | exact ⟨rfl, rfl, rfl⟩))) | (with_reducible refine (And.intro (a := keeps _ _ _) ?_ ?_); focus (first | (simp [keeps_cons, keeps_none, objs_app, objs_app0]; done) | (simp only [keeps_cons, keeps_none, objs_app0, objs_app, and_true]; first | rfl | exact ⟨rfl, rfl⟩ | exact ⟨rfl, rfl, rfl⟩))) | (refine both_ways ?_ ?_) | (rw [wrap_i64 (by omega) (by omega)]) | (refine guardV_split (fun h => ?_) (fun h => ?_) <;> (try rw [h]) <;> (try simp at h) <;> (try (exfalso; omega))))
      refine awp_rounds (fun (p : Nat) τ s' => p ≤ 8 ∧ Ext s3 s' ∧ τ 0 = .slice ta la ∧ τ 3 = .ptr (some (j, [])) ∧ τ 4 = .ptr (some (k, [])) ∧ τ 5 = .int .i64 i ∧ τ 6 = .int .i64 p) (fun p => 8 - p) 0 ?_ ?_
      · refine ⟨by omega, Ext.refl _, ?_, ?_, ?_, ?_, ?_⟩ <;> (try simp only [go_sem, t0, t3, t4, t5]) <;> (try rfl)
      · rintro p τ s5 ⟨hp, hx, t0, t3, t4, t5, t6⟩
        have w2 : IntKind.i64.wrap ((p : Int) + 1) = (p : Int) + 1 := wrap_i64 (by omega) (by omega)
        by_cases hp8 : p < 8
        · have hp1 : (p : Int) < 8 := by omega
          repeat' (first | (simp -dsimp only [↓reduceIte, go_sem, t0, t3, t4, t5, t6, hp1]) | (refine arr_intro fun _ => ?_) | (refine later_intro ⟨keeps_nil, ?_⟩) | (refine later_intro ⟨keeps_refl, ?_⟩) | (with_reducible refine keeps_go ?_ ?_; focus (first | (simp [keeps_cons, keeps_none, objs_app, objs_app0]; done) | (simp only [keeps_cons, keeps_none, objs_app0, objs_app, and_true]; first | rfl | exact ⟨rfl, rfl⟩ | exact ⟨rfl, rfl, rfl⟩))) | (with_reducible refine (And.intro (a := keeps _ _ _) ?_ ?_); focus (first | (simp [keeps_cons, keeps_none, objs_app, objs_app0]; done) | (simp only [keeps_cons, keeps_none, objs_app0, objs_app, and_true]; first | rfl | exact ⟨rfl, rfl⟩ | exact ⟨rfl, rfl, rfl⟩))) | (refine both_ways ?_ ?_) | (rw [wrap_i64 (by omega) (by omega)]) | (refine guardV_split (fun h => ?_) (fun h => ?_) <;> (try rw [h]) <;> (try simp at h) <;> (try (exfalso; omega))))
          refine sused_c (h3.p.ext hx) hB3 fun s6 hx6 => ?_
          have hn := hB3.n (p : Int)
          have hb := hB3.b (p : Int)
          have u1 : ¬ ((usedN B3 p : Nat) : Int) > 256 := by omega
          have u2 : ¬ ((usedB B3 p : Nat) : Int) > 32768 := by omega
          have u3 : (((usedN B3 p : Nat) : Int) != (usedN B3 p : Nat)) = false := by simp
          have u4 := numsB_len (B := B3) (o := (p : Int))
          repeat' (first | (simp -dsimp only [↓reduceIte, go_sem, t0, t3, t4, t5, t6, u1, u2, u3, u4, w2]) | (refine arr_intro fun _ => ?_) | (refine later_intro ⟨keeps_nil, ?_⟩) | (refine later_intro ⟨keeps_refl, ?_⟩) | (with_reducible refine keeps_go ?_ ?_; focus (first | (simp [keeps_cons, keeps_none, objs_app, objs_app0]; done) | (simp only [keeps_cons, keeps_none, objs_app0, objs_app, and_true]; first | rfl | exact ⟨rfl, rfl⟩ | exact ⟨rfl, rfl, rfl⟩))) | (with_reducible refine (And.intro (a := keeps _ _ _) ?_ ?_); focus (first | (simp [keeps_cons, keeps_none, objs_app, objs_app0]; done) | (simp only [keeps_cons, keeps_none, objs_app0, objs_app, and_true]; first | rfl | exact ⟨rfl, rfl⟩ | exact ⟨rfl, rfl, rfl⟩))) | (refine both_ways ?_ ?_) | (rw [wrap_i64 (by omega) (by omega)]) | (refine guardV_split (fun h => ?_) (fun h => ?_) <;> (try rw [h]) <;> (try simp at h) <;> (try (exfalso; omega))) | ((refine snum_c ((h3.p.ext hx).ext hx6) hB3 ?_)))
          refine later_intro ⟨p + 1, by omega, ?_⟩
          (repeat' apply And.intro) <;> (try simp only [go_sem, t0, t3, t4, t5, t6]) <;> first | rfl | omega | exact hx.trans hx6 | trivial
        · have hp1 : ¬ (p : Int) < 8 := by omega
          repeat' (first | (simp -dsimp only [↓reduceIte, go_sem, t0, t3, t4, t5, t6, hp1, w1]) | (refine arr_intro fun _ => ?_) | (refine later_intro ⟨keeps_nil, ?_⟩) | (refine later_intro ⟨keeps_refl, ?_⟩) | (with_reducible refine keeps_go ?_ ?_; focus (first | (simp [keeps_cons, keeps_none, objs_app, objs_app0]; done) | (simp only [keeps_cons, keeps_none, objs_app0, objs_app, and_true]; first | rfl | exact ⟨rfl, rfl⟩ | exact ⟨rfl, rfl, rfl⟩))) | (with_reducible refine (And.intro (a := keeps _ _ _) ?_ ?_); focus (first | (simp [keeps_cons, keeps_none, objs_app, objs_app0]; done) | (simp only [keeps_cons, keeps_none, objs_app0, objs_app, and_true]; first | rfl | exact ⟨rfl, rfl⟩ | exact ⟨rfl, rfl, rfl⟩))) | (refine both_ways ?_ ?_) | (rw [wrap_i64 (by omega) (by omega)]) | (refine guardV_split (fun h => ?_) (fun h => ?_) <;> (try rw [h]) <;> (try simp at h) <;> (try (exfalso; omega))))
          refine later_intro ⟨i + 1, by omega, B3, ?_⟩
          (repeat' apply And.intro) <;> (try simp only [go_sem, t0, t3, t4, t5]) <;> first | rfl | omega | exact h3.ext hx | exact hB3 | trivial
    · have hlt' : (¬ (i : Int) < la.length ∧ True) ∨ ((i : Int) < la.length ∧ ¬ (i : Int) < 40) := by
        by_cases h : (i : Int) < la.length
        · exact .inr ⟨h, by omega⟩
        · exact .inl ⟨h, trivial⟩
      rcases hlt' with ⟨hlt1, hlt2⟩ | ⟨hlt1, hlt2⟩
      all_goals
        repeat' (first | (simp -dsimp only [↓reduceIte, go_sem, t0, t3, t4, t5, hlt1, hlt2]) | (refine arr_intro fun _ => ?_) | (refine later_intro ⟨keeps_nil, ?_⟩) | (refine later_intro ⟨keeps_refl, ?_⟩) | (with_reducible refine keeps_go ?_ ?_; focus (first | (simp [keeps_cons, keeps_none, objs_app, objs_app0]; done) | (simp only [keeps_cons, keeps_none, objs_app0, objs_app, and_true]; first | rfl | exact ⟨rfl, rfl⟩ | exact ⟨rfl, rfl, rfl⟩))) | (with_reducible refine (And.intro (a := keeps _ _ _) ?_ ?_); focus (first | (simp [keeps_cons, keeps_none, objs_app, objs_app0]; done) | (simp only [keeps_cons, keeps_none, objs_app0, objs_app, and_true]; first | rfl | exact ⟨rfl, rfl⟩ | exact ⟨rfl, rfl, rfl⟩))) | (refine both_ways ?_ ?_) | (rw [wrap_i64 (by omega) (by omega)]) | (refine guardV_split (fun h => ?_) (fun h => ?_) <;> (try rw [h]) <;> (try simp at h) <;> (try (exfalso; omega))))
        exact fin _ hT.p.x
end Go.Aff.L10

/- Layer 11: shapes and walks of the laws with Numbers. -/
namespace Go.Aff.L10
open Go.Proofs Go.Aff Go.Aff.L01 Classical
theorem acts_shape {v : AV} (h : ShT Try.prog 51 22 v) : ∃ tk la, v = .slice tk la ∧ ∀ v ∈ la, IsAct11 v := sh_acts h
end Go.Aff.L10

