import Derived.Test.YtnpbneiaflgpdaaG29
import Derived.Test.YtnpbneiaflgpdaaG23

set_option linter.unusedSimpArgs false
set_option linter.unusedVariables false

/- Layer 10, walked: the reader. -/
namespace Go.Aff.L10
open Go.Proofs Go.Aff Go.Aff.L01 Classical
set_option linter.unusedVariables false
set_option linter.unusedSimpArgs false
set_option maxRecDepth 20000
attribute [local go_sem] push_app app_app length_app cellAt_app cellAt_app0 set_app set_app0 objs_app objs_app0 List.cons_append List.nil_append List.length_cons List.length_nil List.getElem?_cons_zero List.getElem?_cons_succ List.set_cons_zero List.set_cons_succ List.length_map
attribute [-go_sem] cellAt_new
attribute [-simp] List.length_flatMap
attribute [local go_sem] Try.underlying3 Try.underlying4 Try.underlying5 Try.underlying9 Try.underlying22 Try.underlying23 Try.underlying26 Try.underlying31 Try.underlying34 Try.underlying52 subPs_0 subAt_0 subSet_0 subPs_1 subAt_1 subSet_1 subPs_2 subAt_2 subSet_2 subPs_3 subAt_3 subSet_3 subPs_4 subAt_4 subSet_4 subPs_5 subAt_5 subSet_5 sizes_sub shapes_sub fits_sub zero_sub zt_sub built_sub Try.underlying25 pendPs_0 pendAt_0 pendSet_0 pendPs_1 pendAt_1 pendSet_1 pendPs_2 pendAt_2 pendSet_2 pendPs_3 pendAt_3 pendSet_3 pendPs_4 pendAt_4 pendSet_4 pendPs_5 pendAt_5 pendSet_5 sizes_pend shapes_pend fits_pend zero_pend zt_pend built_pend Try.underlying98 repPs_0 repAt_0 repSet_0 repPs_1 repAt_1 repSet_1 repPs_2 repAt_2 repSet_2 repPs_3 repAt_3 repSet_3 repPs_4 repAt_4 repSet_4 repPs_5 repAt_5 repSet_5 repPs_6 repAt_6 repSet_6 repPs_7 repAt_7 repSet_7 repPs_8 repAt_8 repSet_8 repPs_9 repAt_9 repSet_9 sizes_rep shapes_rep fits_rep zero_rep zt_rep built_rep Try.underlying28 blobPs_0 blobAt_0 blobSet_0 blobPs_1 blobAt_1 blobSet_1 blobPs_2 blobAt_2 blobSet_2 blobPs_3 blobAt_3 blobSet_3 sizes_blob shapes_blob fits_blob zero_blob zt_blob built_blob Try.underlying30 msgPs_0 msgAt_0 msgSet_0 msgPs_1 msgAt_1 msgSet_1 msgPs_2 msgAt_2 msgSet_2 msgPs_3 msgAt_3 msgSet_3 msgPs_4 msgAt_4 msgSet_4 msgPs_5 msgAt_5 msgSet_5 msgPs_6 msgAt_6 msgSet_6 msgPs_7 msgAt_7 msgSet_7 msgPs_8 msgAt_8 msgSet_8 msgPs_9 msgAt_9 msgSet_9 sizes_msg shapes_msg fits_msg zero_msg zt_msg built_msg Try.underlying33 at_Ps_0 at_At_0 at_Set_0 at_Ps_1 at_At_1 at_Set_1 sizes_at_ shapes_at_ fits_at_ zero_at_ zt_at_ built_at_ Try.underlying77
attribute [local go_sem] fits3 fits4 fits5 fits9 fits23 fits26 fits31 fits34 fits52 zt3 zero3 zt34 zero34 zt23 zero23 bin_sub_eql bin_pend_eql bin_pend_neq bin_blob_eql bin_dig23_eql bin_dig23_neq slice23
attribute [local go_sem ↓] blockQ_exit2
attribute [local simp] dig_ext
structure Rdr where
  s : List UInt8
  at_ : Int
  e : Int
def rdr0 : Rdr := ⟨[], 0, 0⟩
def rdrPs (x : Rdr) : List AV := [.str x.s, .int .i64 x.at_, .int .i64 x.e]
abbrev rdrV (x : Rdr) : AV := .agg (rdrPs x)
theorem rdrPs_0 {x : Rdr} : (rdrPs x)[0]? = some (.str x.s) := nr rfl
theorem rdrAt_0 {x : Rdr} {v : AV} : partIs Try.prog 72 (rdrPs x) 0 v = fits Try.prog 9 v := by rw [partIs_of (o := 0) (T := 9) (by kernel_rfl)]; simp [rdrPs, AV.sizes, AV.size]
theorem rdrSet_0 {x : Rdr} {y : List UInt8} : (rdrPs x).set 0 (.str y) = rdrPs { x with s := y } := nr rfl
theorem rdrPs_1 {x : Rdr} : (rdrPs x)[1]? = some (.int .i64 x.at_) := nr rfl
theorem rdrAt_1 {x : Rdr} {v : AV} : partIs Try.prog 72 (rdrPs x) 1 v = fits Try.prog 3 v := by rw [partIs_of (o := 1) (T := 3) (by kernel_rfl)]; simp [rdrPs, AV.sizes, AV.size]
theorem rdrSet_1 {x : Rdr} {y : Int} : (rdrPs x).set 1 (.int .i64 y) = rdrPs { x with at_ := y } := nr rfl
theorem rdrPs_2 {x : Rdr} : (rdrPs x)[2]? = some (.int .i64 x.e) := nr rfl
theorem rdrAt_2 {x : Rdr} {v : AV} : partIs Try.prog 72 (rdrPs x) 2 v = fits Try.prog 34 v := by rw [partIs_of (o := 2) (T := 34) (by kernel_rfl)]; simp [rdrPs, AV.sizes, AV.size]
theorem rdrSet_2 {x : Rdr} {y : Int} : (rdrPs x).set 2 (.int .i64 y) = rdrPs { x with e := y } := nr rfl
theorem sizes_rdr {x : Rdr} : AV.sizes (rdrPs x) = 3 := by simp [rdrPs, AV.sizes, AV.size]
theorem shapes_rdr {x : Rdr} : AV.shapes (rdrPs x) = [.leaf, .leaf, .leaf] := by simp [rdrPs, AV.shapes, AV.shape]
theorem fits_rdr {v : AV} : fits Try.prog 72 v = (v.isAgg = true ∧ v.size = 3) := fits_agg (by kernel_rfl) (by kernel_rfl)
theorem zero_rdr : zeroA Try.prog 12 72 = .agg (rdrPs rdr0) := by kernel_rfl
theorem zt_rdr : ZeroOf Try.prog 72 (.agg (rdrPs rdr0)) = True := eq_true ⟨_, _, rfl, rfl, rfl, rfl, rfl⟩
theorem built_rdr : Built Try.prog 72 = True := eq_true (by unfold Built; rw [Try.underlying72]; decide +kernel)
theorem strip_rdr {x : Rdr} : AV.strips (rdrPs x) = rdrPs x := by simp [rdrPs, AV.strips, AV.strip]
theorem noRef_rdr {x : Rdr} : AV.noRefs (rdrPs x) = true := by simp [rdrPs, AV.noRefs, AV.noRef]

attribute [local go_sem] rdrPs_0 rdrAt_0 rdrSet_0 rdrPs_1 rdrAt_1 rdrSet_1 rdrPs_2 rdrAt_2 rdrSet_2 sizes_rdr shapes_rdr fits_rdr zero_rdr zt_rdr built_rdr Try.underlying72 Try.underlying70 Try.underlying75

theorem prog_num {s : List UInt8} {i : Int} (h : (numR s i).2.2 = 0) : i < (numR s i).2.1 ∧ (numR s i).2.1 ≤ s.length := by
  unfold numR at h ⊢
  by_cases h1 : i < 0 ∨ (s.length : Int) < i
  · rw [if_pos h1] at h; simp at h
  · rw [if_neg h1] at h ⊢
    have := numP_prog (s := s) (q := i.toNat) (by omega) h
    omega
theorem prog_text {s : List UInt8} {i : Int} (h : (textR s i).2.2 = 0) : i < (textR s i).2.1 ∧ (textR s i).2.1 ≤ s.length := by
  unfold textR at h ⊢
  by_cases h1 : i < 0 ∨ (s.length : Int) < i
  · rw [if_pos h1] at h; simp at h
  · rw [if_neg h1] at h ⊢
    have := textP_prog (s := s) (q := i.toNat) (by omega) h
    omega
theorem readL_prog {α : Type} {one : Nat → α × Int × Int} {s : List UInt8} : ∀ (k p : Nat) (acc : List α), s.length - p ≤ k → p ≤ s.length → (readL one s p acc).2.2 = 0 → (p : Int) < (readL one s p acc).2.1 ∧ (readL one s p acc).2.1 ≤ s.length := by
  intro k
  induction k with
  | zero =>
    intro p acc hk hp h
    have : p = s.length := by omega
    rw [readL, if_pos this] at h; simp at h
  | succ k ih =>
    intro p acc hk hp h
    rw [readL] at h ⊢
    by_cases h1 : p = s.length
    · rw [if_pos h1] at h; simp at h
    · rw [if_neg h1] at h ⊢
      by_cases h2 : bAt s p = 41
      · rw [if_pos h2]; dsimp only; omega
      · rw [if_neg h2] at h ⊢
        by_cases h3 : 512 ≤ acc.length
        · rw [if_pos h3] at h; simp at h
        · rw [if_neg h3] at h ⊢
          by_cases h4 : (one p).2.2 ≠ 0
          · rw [if_pos h4] at h; exact absurd h h4
          · rw [if_neg h4] at h ⊢
            by_cases h5 : (p : Int) < (one p).2.1 ∧ (one p).2.1 ≤ s.length
            · rw [dif_pos h5] at h ⊢
              have := ih (one p).2.1.toNat _ (by omega) (by omega) h
              omega
            · rw [dif_neg h5] at h; simp at h
theorem readR_prog {α : Type} {one : Nat → α × Int × Int} {s : List UInt8} {i : Int} (h : (readR one s i).2.2 = 0) : i < (readR one s i).2.1 ∧ (readR one s i).2.1 ≤ s.length := by
  unfold readR at h ⊢
  by_cases h1 : i < 0 ∨ (s.length : Int) < i
  · rw [if_pos h1] at h; simp at h
  · rw [if_neg h1] at h ⊢
    by_cases h2 : i.toNat = s.length
    · rw [if_pos h2] at h; simp at h
    · rw [if_neg h2] at h ⊢
      by_cases h3 : bAt s i.toNat ≠ 40
      · rw [if_pos h3] at h; simp at h
      · rw [if_neg h3] at h ⊢
        have := readL_prog (one := one) _ (i.toNat + 1) [] (Nat.le_refl _) (by omega) h
        omega

def slV {α : Type} (f : α → AV) (l : List α) : AV := .slice (tk' l) (l.map f)
theorem tupL_slV {α : Type} {f : α → AV} {x : List α × Int × Int} : tupL f x = .tuple [slV f x.1, .int .i64 x.2.1, .int .i64 x.2.2] := by
  unfold tupL slV tk'
  split <;> simp_all
theorem set_set {s : AST} {j : Nat} {a b : AObj} : (s.set j a).set j b = s.set j b := by simp [AST.set]

/-- A reader in memory, and what else is known of memory. -/
structure RF (σ0 s : AST) (T : List (Nat × Nat)) (j : Nat) (r : Rdr) (F : List (Nat × AObj)) : Prop where
  x : Ext σ0 s
  t : s.toks = T
  jn : σ0.objs.length ≤ j
  o : s.objs[j]? = some (.cells (rdrV r))
  f : ∀ x ∈ F, x.1 ≠ j ∧ s.objs[x.1]? = some x.2
  p : r.e = 0 → 0 ≤ r.at_ ∧ r.at_ ≤ r.s.length
  l : r.s.length ≤ 9223372036854775807
section
variable {σ0 s : AST} {T : List (Nat × Nat)} {j : Nat} {r : Rdr} {F G : List (Nat × AObj)}
theorem RF.step {a e : Int} (h : RF σ0 s T j r F) (hp : e = 0 → r.at_ < a ∧ a ≤ r.s.length ∧ 0 ≤ r.at_) : RF σ0 (s.set j (.cells (rdrV { r with at_ := a, e := e }))) T j { r with at_ := a, e := e } F := by
  have hj := (List.getElem?_eq_some_iff.1 h.o).1
  refine ⟨h.x.set h.jn, h.t, h.jn, ?_, fun x hx => ⟨(h.f x hx).1, ?_⟩, fun h0 => ?_, h.l⟩
  · simp only [AST.set]; rw [List.getElem?_set_self hj]
  · simp only [AST.set]; rw [List.getElem?_set_ne (fun e => (h.f x hx).1 e.symm)]; exact (h.f x hx).2
  · have := hp h0; dsimp only at *; omega
theorem RF.err {e : Int} (h : RF σ0 s T j r F) (he : e ≠ 0) : RF σ0 (s.set j (.cells (rdrV { r with e := e }))) T j { r with e := e } F := h.step (a := r.at_) (fun h0 => absurd h0 he)
theorem RF.mono (h : RF σ0 s T j r F) (hg : ∀ x ∈ G, x ∈ F) : RF σ0 s T j r G := ⟨h.x, h.t, h.jn, h.o, fun x hx => h.f x (hg x hx), h.p, h.l⟩
theorem RF.push {o : AObj} (h : RF σ0 s T j r F) : RF σ0 (s.app [o]) T j r ((s.objs.length, o) :: F) := by
  have hj : j < s.objs.length := (List.getElem?_eq_some_iff.1 h.o).1
  refine ⟨h.x.trans (Ext.app _ _), h.t, h.jn, objs_known_app h.o _, fun x hx => ?_, h.p, h.l⟩
  rcases List.mem_cons.1 hx with rfl | hx
  · exact ⟨by dsimp only; omega, objs_app0⟩
  · exact ⟨(h.f x hx).1, objs_known_app (h.f x hx).2 _⟩
theorem RF.app {l : List AObj} (h : RF σ0 s T j r F) : RF σ0 (s.app l) T j r F :=
  ⟨h.x.trans (Ext.app _ _), h.t, h.jn, objs_known_app h.o _, fun x hx => ⟨(h.f x hx).1, objs_known_app (h.f x hx).2 _⟩, h.p, h.l⟩
theorem RF.cell {k : Nat} {v : AV} (h : RF σ0 s T j r F) (hm : (k, AObj.cells v) ∈ F) (p : List Nat) : cellAt s k p = v.at p := cellAt_known (h.f _ hm).2 p
/-- The first of the known objects is put anew. -/
theorem RF.upd {k : Nat} {o o' : AObj} (h : RF σ0 s T j r ((k, o) :: F)) (hk : σ0.objs.length ≤ k) (hF : ∀ x ∈ F, x.1 ≠ k) : RF σ0 (s.set k o') T j r ((k, o') :: F) := by
  have h1 := h.f (k, o) (List.mem_cons_self ..)
  have hkl := (List.getElem?_eq_some_iff.1 h1.2).1
  refine ⟨h.x.set hk, h.t, h.jn, ?_, fun x hx => ?_, h.p, h.l⟩
  · simp only [AST.set]; rw [List.getElem?_set_ne h1.1]; exact h.o
  · rcases List.mem_cons.1 hx with rfl | hx
    · exact ⟨h1.1, by simp only [AST.set]; rw [List.getElem?_set_self hkl]⟩
    · have h2 := h.f x (List.mem_cons_of_mem _ hx)
      exact ⟨h2.1, by simp only [AST.set]; rw [List.getElem?_set_ne (fun e => hF x hx e.symm)]; exact h2.2⟩
end
def Rdr.int (r : Rdr) : Int × Rdr := if r.e ≠ 0 then (0, r) else ((numR r.s r.at_).1, { r with at_ := (numR r.s r.at_).2.1, e := (numR r.s r.at_).2.2 })
def Rdr.text (r : Rdr) : List UInt8 × Rdr := if r.e ≠ 0 then ([], r) else ((textR r.s r.at_).1, { r with at_ := (textR r.s r.at_).2.1, e := (textR r.s r.at_).2.2 })
abbrev intsR (s : List UInt8) (i : Int) : List Int × Int × Int := readR (numP s) s i
def Rdr.ints (r : Rdr) : List Int × Rdr := if r.e ≠ 0 then ([], r) else ((intsR r.s r.at_).1, { r with at_ := (intsR r.s r.at_).2.1, e := (intsR r.s r.at_).2.2 })
theorem withInt_c {r : Rdr} {T : List (Nat × Nat)} {j : Nat} {F : List (Nat × AObj)} {σ0 σ : AST} {K : AV → AST → Prop} (hR : RF σ0 σ T j r F) (hK : ∀ s, RF σ0 s T j r.int.2 F → K (.int .i64 r.int.1) s) : TCalls Try.prog 65 [.ptr (some (j, [])), .fn (.func 66) [] []] σ K := by
  refine tcalls_walk Try.f65 _ [.tmp 4] Try.func65 rfl rfl rfl mixed (Nat.le_of_ble_eq_true rfl) rfl fun hlen => ?_
  have c := cellAt_known hR.o
  have ho := hR.o
  have hj := (List.getElem?_eq_some_iff.1 hR.o).1
  have hl := hR.l
  have s1 : ∀ o, (σ.set j o).objs[j]? = some o := fun o => by simp only [AST.set]; rw [List.getElem?_set_self hj]
  have s2 : ∀ v p, cellAt (σ.set j (.cells v)) j p = v.at p := fun v p => cellAt_known (s1 _) p
  by_cases he : r.e = 0
  · have hp := hR.p he
    repeat' (first | (simp -dsimp only [↓reduceIte, go_sem, c, he, ho, s1, s2, tup3, tupT]) | (refine arr_intro fun _ => ?_) | (refine later_intro ⟨keeps_nil, ?_⟩) | (refine later_intro ⟨keeps_refl, ?_⟩) | (with_reducible refine keeps_go (by simp [keeps_cons, keeps_none, objs_app, objs_app0] <;> fail) ?_) | (refine both_ways ?_ ?_) | (rw [wrap_i64 (by omega) (by omega)]) | (refine guardV_split (fun h => ?_) (fun h => ?_) <;> (try rw [h]) <;> (try simp at h) <;> (try (exfalso; omega))) | (with_reducible refine awp_drawT (id := 4) (.op 0 2 (.op 1 2 (.op 2 2 (.op 3 2 (.op 4 2 (.op 5 2 (.op 6 2 (.op 7 2 (.op 8 2 (.op 9 1 (.op 10 2 (.op 11 2 (.op 12 2 (.op 13 2 (.op 14 2 (.op 15 2 (.op 16 2 .nil))))))))))))))))) (by kernel_rfl) ?_) | (refine L01.readNumber_c (by omega) (by omega) ?_) | (rw [tupL_slV]))
    have e : r.int = ((numR r.s r.at_).1, { r with at_ := (numR r.s r.at_).2.1, e := (numR r.s r.at_).2.2 }) := by rw [Rdr.int, if_neg (by simp [he])]
    rw [e] at hK
    refine hK _ ?_
    rw [set_set]
    exact hR.step fun h0 => by have := prog_num h0; omega
  · repeat' (first | (simp -dsimp only [↓reduceIte, go_sem, c, he, ho]) | (refine arr_intro fun _ => ?_) | (refine later_intro ⟨keeps_nil, ?_⟩) | (refine later_intro ⟨keeps_refl, ?_⟩) | (with_reducible refine keeps_go (by simp [keeps_cons, keeps_none, objs_app, objs_app0] <;> fail) ?_) | (refine both_ways ?_ ?_) | (rw [wrap_i64 (by omega) (by omega)]) | (refine guardV_split (fun h => ?_) (fun h => ?_) <;> (try rw [h]) <;> (try simp at h) <;> (try (exfalso; omega))))
    have e : r.int = (0, r) := by rw [Rdr.int, if_pos he]
    rw [e] at hK
    exact hK _ hR
theorem withText_c {r : Rdr} {T : List (Nat × Nat)} {j : Nat} {F : List (Nat × AObj)} {σ0 σ : AST} {K : AV → AST → Prop} (hR : RF σ0 σ T j r F) (hK : ∀ s, RF σ0 s T j r.text.2 F → K (.str r.text.1) s) : TCalls Try.prog 87 [.ptr (some (j, [])), .fn (.func 88) [] []] σ K := by
  refine tcalls_walk Try.f87 _ [.tmp 4] Try.func87 rfl rfl rfl mixed (Nat.le_of_ble_eq_true rfl) rfl fun hlen => ?_
  have c := cellAt_known hR.o
  have ho := hR.o
  have hj := (List.getElem?_eq_some_iff.1 hR.o).1
  have hl := hR.l
  have s1 : ∀ o, (σ.set j o).objs[j]? = some o := fun o => by simp only [AST.set]; rw [List.getElem?_set_self hj]
  have s2 : ∀ v p, cellAt (σ.set j (.cells v)) j p = v.at p := fun v p => cellAt_known (s1 _) p
  by_cases he : r.e = 0
  · have hp := hR.p he
    repeat' (first | (simp -dsimp only [↓reduceIte, go_sem, c, he, ho, s1, s2, tup3, tupT]) | (refine arr_intro fun _ => ?_) | (refine later_intro ⟨keeps_nil, ?_⟩) | (refine later_intro ⟨keeps_refl, ?_⟩) | (with_reducible refine keeps_go (by simp [keeps_cons, keeps_none, objs_app, objs_app0] <;> fail) ?_) | (refine both_ways ?_ ?_) | (rw [wrap_i64 (by omega) (by omega)]) | (refine guardV_split (fun h => ?_) (fun h => ?_) <;> (try rw [h]) <;> (try simp at h) <;> (try (exfalso; omega))) | (with_reducible refine awp_drawT (id := 4) (.op 0 2 (.op 1 2 (.op 2 2 (.op 3 2 (.op 4 2 (.op 5 2 (.op 6 2 (.op 7 2 (.op 8 2 (.op 9 1 (.op 10 2 (.op 11 2 (.op 12 2 (.op 13 2 (.op 14 2 (.op 15 2 (.op 16 2 .nil))))))))))))))))) (by kernel_rfl) ?_) | (refine L01.readText_c (by omega) (by omega) ?_) | (rw [tupL_slV]))
    have e : r.text = ((textR r.s r.at_).1, { r with at_ := (textR r.s r.at_).2.1, e := (textR r.s r.at_).2.2 }) := by rw [Rdr.text, if_neg (by simp [he])]
    rw [e] at hK
    refine hK _ ?_
    rw [set_set]
    exact hR.step fun h0 => by have := prog_text h0; omega
  · repeat' (first | (simp -dsimp only [↓reduceIte, go_sem, c, he, ho]) | (refine arr_intro fun _ => ?_) | (refine later_intro ⟨keeps_nil, ?_⟩) | (refine later_intro ⟨keeps_refl, ?_⟩) | (with_reducible refine keeps_go (by simp [keeps_cons, keeps_none, objs_app, objs_app0] <;> fail) ?_) | (refine both_ways ?_ ?_) | (rw [wrap_i64 (by omega) (by omega)]) | (refine guardV_split (fun h => ?_) (fun h => ?_) <;> (try rw [h]) <;> (try simp at h) <;> (try (exfalso; omega))))
    have e : r.text = ([], r) := by rw [Rdr.text, if_pos he]
    rw [e] at hK
    exact hK _ hR
theorem withInts_c {r : Rdr} {T : List (Nat × Nat)} {j : Nat} {F : List (Nat × AObj)} {σ0 σ : AST} {K : AV → AST → Prop} (hR : RF σ0 σ T j r F) (hK : ∀ s, RF σ0 s T j r.ints.2 F → K (slV (AV.int .i64) r.ints.1) s) : TCalls Try.prog 70 [.ptr (some (j, [])), .fn (.func 71) [] []] σ K := by
  refine tcalls_walk Try.f70 _ [.tmp 4] Try.func70 rfl rfl rfl mixed (Nat.le_of_ble_eq_true rfl) rfl fun hlen => ?_
  have c := cellAt_known hR.o
  have ho := hR.o
  have hj := (List.getElem?_eq_some_iff.1 hR.o).1
  have hl := hR.l
  have s1 : ∀ o, (σ.set j o).objs[j]? = some o := fun o => by simp only [AST.set]; rw [List.getElem?_set_self hj]
  have s2 : ∀ v p, cellAt (σ.set j (.cells v)) j p = v.at p := fun v p => cellAt_known (s1 _) p
  by_cases he : r.e = 0
  · have hp := hR.p he
    repeat' (first | (simp -dsimp only [↓reduceIte, go_sem, c, he, ho, s1, s2, tup3, tupT]) | (refine arr_intro fun _ => ?_) | (refine later_intro ⟨keeps_nil, ?_⟩) | (refine later_intro ⟨keeps_refl, ?_⟩) | (with_reducible refine keeps_go (by simp [keeps_cons, keeps_none, objs_app, objs_app0] <;> fail) ?_) | (refine both_ways ?_ ?_) | (rw [wrap_i64 (by omega) (by omega)]) | (refine guardV_split (fun h => ?_) (fun h => ?_) <;> (try rw [h]) <;> (try simp at h) <;> (try (exfalso; omega))) | (with_reducible refine awp_drawT (id := 4) (.op 0 2 (.op 1 2 (.op 2 2 (.op 3 2 (.op 4 2 (.op 5 2 (.op 6 2 (.op 7 2 (.op 8 2 (.op 9 1 (.op 10 2 (.op 11 2 (.op 12 2 (.op 13 2 (.op 14 2 (.op 15 2 (.op 16 2 .nil))))))))))))))))) (by kernel_rfl) ?_) | (refine L01.readNumbers_c (by omega) (by omega) ?_) | (rw [tupL_slV]))
    have e : r.ints = ((intsR r.s r.at_).1, { r with at_ := (intsR r.s r.at_).2.1, e := (intsR r.s r.at_).2.2 }) := by rw [Rdr.ints, if_neg (by simp [he])]
    rw [e] at hK
    refine hK _ ?_
    rw [set_set]
    exact hR.step fun h0 => by have := readR_prog h0; omega
  · repeat' (first | (simp -dsimp only [↓reduceIte, go_sem, c, he, ho]) | (refine arr_intro fun _ => ?_) | (refine later_intro ⟨keeps_nil, ?_⟩) | (refine later_intro ⟨keeps_refl, ?_⟩) | (with_reducible refine keeps_go (by simp [keeps_cons, keeps_none, objs_app, objs_app0] <;> fail) ?_) | (refine both_ways ?_ ?_) | (rw [wrap_i64 (by omega) (by omega)]) | (refine guardV_split (fun h => ?_) (fun h => ?_) <;> (try rw [h]) <;> (try simp at h) <;> (try (exfalso; omega))))
    have e : r.ints = ([], r) := by rw [Rdr.ints, if_pos he]
    rw [e] at hK
    exact hK _ hR
theorem int_c {r : Rdr} {T : List (Nat × Nat)} {j : Nat} {F : List (Nat × AObj)} {σ0 σ : AST} {K : AV → AST → Prop} (h : RF σ0 σ T j r F) (hK : ∀ s, RF σ0 s T j r.int.2 F → K (.int .i64 r.int.1) s) : TCalls Try.prog 42 [.ptr (some (j, []))] σ K := by
  refine tcalls_walk Try.f42 _ [.tmp 2] Try.func42 rfl rfl rfl mixed (Nat.le_of_ble_eq_true rfl) rfl fun hlen => ?_
  simp -dsimp only [↓reduceIte, go_sem]
  refine withInt_c h fun s h => ?_
  repeat' (first | (simp -dsimp only [↓reduceIte, go_sem]) | (refine arr_intro fun _ => ?_) | (refine later_intro ⟨keeps_nil, ?_⟩) | (refine later_intro ⟨keeps_refl, ?_⟩) | (with_reducible refine keeps_go (by simp [keeps_cons, keeps_none, objs_app, objs_app0] <;> fail) ?_) | (refine both_ways ?_ ?_) | (rw [wrap_i64 (by omega) (by omega)]) | (refine guardV_split (fun h => ?_) (fun h => ?_) <;> (try rw [h]) <;> (try simp at h) <;> (try (exfalso; omega))))
  exact hK s h
theorem rtext_c {r : Rdr} {T : List (Nat × Nat)} {j : Nat} {F : List (Nat × AObj)} {σ0 σ : AST} {K : AV → AST → Prop} (h : RF σ0 σ T j r F) (hK : ∀ s, RF σ0 s T j r.text.2 F → K (.str r.text.1) s) : TCalls Try.prog 67 [.ptr (some (j, []))] σ K := by
  refine tcalls_walk Try.f67 _ [.tmp 2] Try.func67 rfl rfl rfl mixed (Nat.le_of_ble_eq_true rfl) rfl fun hlen => ?_
  simp -dsimp only [↓reduceIte, go_sem]
  refine withText_c h fun s h => ?_
  repeat' (first | (simp -dsimp only [↓reduceIte, go_sem]) | (refine arr_intro fun _ => ?_) | (refine later_intro ⟨keeps_nil, ?_⟩) | (refine later_intro ⟨keeps_refl, ?_⟩) | (with_reducible refine keeps_go (by simp [keeps_cons, keeps_none, objs_app, objs_app0] <;> fail) ?_) | (refine both_ways ?_ ?_) | (rw [wrap_i64 (by omega) (by omega)]) | (refine guardV_split (fun h => ?_) (fun h => ?_) <;> (try rw [h]) <;> (try simp at h) <;> (try (exfalso; omega))))
  exact hK s h
end Go.Aff.L10

/- Layer 10, walked: digests, answers read. -/
namespace Go.Aff.L10
open Go.Proofs Go.Aff Go.Aff.L01 Classical
set_option linter.unusedVariables false
set_option linter.unusedSimpArgs false
set_option maxRecDepth 20000
attribute [local go_sem] push_app app_app length_app cellAt_app cellAt_app0 set_app set_app0 objs_app objs_app0 List.cons_append List.nil_append List.length_cons List.length_nil List.getElem?_cons_zero List.getElem?_cons_succ List.set_cons_zero List.set_cons_succ List.length_map
attribute [-go_sem] cellAt_new
attribute [-simp] List.length_flatMap
attribute [local go_sem] Try.underlying3 Try.underlying4 Try.underlying5 Try.underlying9 Try.underlying22 Try.underlying23 Try.underlying26 Try.underlying31 Try.underlying34 Try.underlying52 subPs_0 subAt_0 subSet_0 subPs_1 subAt_1 subSet_1 subPs_2 subAt_2 subSet_2 subPs_3 subAt_3 subSet_3 subPs_4 subAt_4 subSet_4 subPs_5 subAt_5 subSet_5 sizes_sub shapes_sub fits_sub zero_sub zt_sub built_sub Try.underlying25 pendPs_0 pendAt_0 pendSet_0 pendPs_1 pendAt_1 pendSet_1 pendPs_2 pendAt_2 pendSet_2 pendPs_3 pendAt_3 pendSet_3 pendPs_4 pendAt_4 pendSet_4 pendPs_5 pendAt_5 pendSet_5 sizes_pend shapes_pend fits_pend zero_pend zt_pend built_pend Try.underlying98 repPs_0 repAt_0 repSet_0 repPs_1 repAt_1 repSet_1 repPs_2 repAt_2 repSet_2 repPs_3 repAt_3 repSet_3 repPs_4 repAt_4 repSet_4 repPs_5 repAt_5 repSet_5 repPs_6 repAt_6 repSet_6 repPs_7 repAt_7 repSet_7 repPs_8 repAt_8 repSet_8 repPs_9 repAt_9 repSet_9 sizes_rep shapes_rep fits_rep zero_rep zt_rep built_rep Try.underlying28 blobPs_0 blobAt_0 blobSet_0 blobPs_1 blobAt_1 blobSet_1 blobPs_2 blobAt_2 blobSet_2 blobPs_3 blobAt_3 blobSet_3 sizes_blob shapes_blob fits_blob zero_blob zt_blob built_blob Try.underlying30 msgPs_0 msgAt_0 msgSet_0 msgPs_1 msgAt_1 msgSet_1 msgPs_2 msgAt_2 msgSet_2 msgPs_3 msgAt_3 msgSet_3 msgPs_4 msgAt_4 msgSet_4 msgPs_5 msgAt_5 msgSet_5 msgPs_6 msgAt_6 msgSet_6 msgPs_7 msgAt_7 msgSet_7 msgPs_8 msgAt_8 msgSet_8 msgPs_9 msgAt_9 msgSet_9 sizes_msg shapes_msg fits_msg zero_msg zt_msg built_msg Try.underlying33 at_Ps_0 at_At_0 at_Set_0 at_Ps_1 at_At_1 at_Set_1 sizes_at_ shapes_at_ fits_at_ zero_at_ zt_at_ built_at_ Try.underlying77
attribute [local go_sem] fits3 fits4 fits5 fits9 fits23 fits26 fits31 fits34 fits52 zt3 zero3 zt34 zero34 zt23 zero23 bin_sub_eql bin_pend_eql bin_pend_neq bin_blob_eql bin_dig23_eql bin_dig23_neq slice23
attribute [local go_sem ↓] blockQ_exit2
attribute [local simp] dig_ext
attribute [local go_sem] rdrPs_0 rdrAt_0 rdrSet_0 rdrPs_1 rdrAt_1 rdrSet_1 rdrPs_2 rdrAt_2 rdrSet_2 sizes_rdr shapes_rdr fits_rdr zero_rdr zt_rdr built_rdr Try.underlying72 Try.underlying70 Try.underlying75

section
variable {s : AST} {j k : Nat} {o : AObj} {v : AV} {p : List Nat}
theorem cellAt_setS (h : k < s.objs.length) : cellAt (s.set k (.cells v)) k p = v.at p := cellAt_known (by simp only [AST.set]; rw [List.getElem?_set_self h]) p
theorem cellAt_setN (h : j ≠ k) : cellAt (s.set j o) k p = cellAt s k p := by simp only [cellAt, AST.set]; rw [List.getElem?_set_ne h]
theorem objs_setS (h : k < s.objs.length) : (s.set k o).objs[k]? = some o := by simp only [AST.set]; rw [List.getElem?_set_self h]
theorem objs_setN (h : j ≠ k) : (s.set j o).objs[k]? = s.objs[k]? := by simp only [AST.set]; rw [List.getElem?_set_ne h]
theorem length_set : (s.set j o).objs.length = s.objs.length := by simp [AST.set]
theorem RF.setO {σ0 : AST} {T : List (Nat × Nat)} {r : Rdr} {F : List (Nat × AObj)} (h : RF σ0 s T j r F) (hk : σ0.objs.length ≤ k) (hj : k ≠ j) (hF : ∀ x ∈ F, x.1 ≠ k) : RF σ0 (s.set k o) T j r F := by
  refine ⟨h.x.set hk, h.t, h.jn, by rw [objs_setN hj]; exact h.o, fun x hx => ⟨(h.f x hx).1, by rw [objs_setN (hF x hx).symm]; exact (h.f x hx).2⟩, h.p, h.l⟩
theorem RF.lt {σ0 : AST} {T : List (Nat × Nat)} {r : Rdr} {F : List (Nat × AObj)} (h : RF σ0 s T j r F) : ∀ x ∈ F, x.1 ≠ s.objs.length := fun x hx => by
  have := (List.getElem?_eq_some_iff.1 (h.f x hx).2).1; omega
theorem RF.le {σ0 : AST} {T : List (Nat × Nat)} {r : Rdr} {F : List (Nat × AObj)} (h : RF σ0 s T j r F) : σ0.objs.length ≤ s.objs.length := by
  have := h.jn; have := (List.getElem?_eq_some_iff.1 h.o).1; omega
end
def digOf (t : List UInt8) : Dig × Int := if h : t.length = 32 then (⟨t, h⟩, 0) else (dig0, if t.length < 32 then 5 else 6)
theorem digest_c {t : List UInt8} {σ : AST} {K : AV → AST → Prop} (hK : K (.tuple [.dig (digOf t).1, .int .i64 (digOf t).2]) σ) : TCalls Try.prog 89 [.str t] σ K := by
  refine TCalls.drop ?_
  refine tcalls_walk Try.f89 _ [.cell 2 23, .tmp 3] Try.func89 rfl rfl rfl mixed (Nat.le_of_ble_eq_true rfl) rfl fun hlen => ?_
  repeat' (first | (simp -dsimp only [↓reduceIte, go_sem, slice23 (σ := σ)]) | (refine arr_intro fun _ => ?_) | (refine later_intro ⟨keeps_nil, ?_⟩) | (refine later_intro ⟨keeps_refl, ?_⟩) | (with_reducible refine keeps_go (by simp [keeps_cons, keeps_none, objs_app, objs_app0] <;> fail) ?_) | (refine both_ways ?_ ?_) | (rw [wrap_i64 (by omega) (by omega)]) | (refine guardV_split (fun h => ?_) (fun h => ?_) <;> (try rw [h]) <;> (try simp at h) <;> (try (exfalso; omega))))
  · have e : digOf t = (dig0, 5) := by unfold digOf; rw [dif_neg (by omega), if_pos (by omega)]
    rw [e] at hK
    exact ⟨Ext.app _ _, rfl, by simpa [AV.strip, AV.strips] using hK⟩
  · have e : digOf t = (dig0, 6) := by unfold digOf; rw [dif_neg (by omega), if_neg (by omega)]
    rw [e] at hK
    exact ⟨Ext.app _ _, rfl, by simpa [AV.strip, AV.strips] using hK⟩
  · have h32 : t.length = 32 := by omega
    have e : digOf t = (⟨t, h32⟩, 0) := by unfold digOf; rw [dif_pos h32]
    rw [e] at hK
    refine copy_dig Try.underlying52 (by kernel_rfl) ⟨_, Try.underlying5⟩ (dg := dig0) (by simp [AST.app]) h32 ?_
    repeat' (first | (simp -dsimp only [↓reduceIte, go_sem]) | (refine arr_intro fun _ => ?_) | (refine later_intro ⟨keeps_nil, ?_⟩) | (refine later_intro ⟨keeps_refl, ?_⟩) | (with_reducible refine keeps_go (by simp [keeps_cons, keeps_none, objs_app, objs_app0] <;> fail) ?_) | (refine both_ways ?_ ?_) | (rw [wrap_i64 (by omega) (by omega)]) | (refine guardV_split (fun h => ?_) (fun h => ?_) <;> (try rw [h]) <;> (try simp at h) <;> (try (exfalso; omega))))
    exact ⟨Ext.app _ _, rfl, by simpa [AV.strip, AV.strips] using hK⟩
noncomputable def Rdr.dig (r : Rdr) : Dig × Rdr := ((digOf r.text.1).1, if r.text.2.e = 0 ∧ (digOf r.text.1).2 ≠ 0 then { r.text.2 with e := 6 } else r.text.2)
theorem rdig_c {r : Rdr} {T : List (Nat × Nat)} {j : Nat} {F : List (Nat × AObj)} {σ0 σ : AST} {K : AV → AST → Prop} (h : RF σ0 σ T j r F) (hK : ∀ s, RF σ0 s T j r.dig.2 F → K (.dig r.dig.1) s) : TCalls Try.prog 68 [.ptr (some (j, []))] σ K := by
  refine tcalls_walk Try.f68 _ [.cell 2 23] Try.func68 rfl rfl rfl mixed (Nat.le_of_ble_eq_true rfl) rfl fun hlen => ?_
  simp -dsimp only [↓reduceIte, go_sem]
  have hle := h.le
  have hlt := h.lt
  have hR := h.push (o := .cells (.dig dig0))
  generalize hk : σ.objs.length = k at hR hle hlt
  refine rtext_c hR fun s hR => ?_
  simp -dsimp only [↓reduceIte, go_sem, hk]
  refine digest_c ?_
  have hR := hR.push (o := .cells (.dig (digOf r.text.1).1))
  repeat' (first | (simp -dsimp only [↓reduceIte, go_sem, hk]) | (refine arr_intro fun _ => ?_) | (refine later_intro ⟨keeps_nil, ?_⟩) | (refine later_intro ⟨keeps_refl, ?_⟩) | (with_reducible refine keeps_go (by simp [keeps_cons, keeps_none, objs_app, objs_app0] <;> fail) ?_) | (refine both_ways ?_ ?_) | (rw [wrap_i64 (by omega) (by omega)]) | (refine guardV_split (fun h => ?_) (fun h => ?_) <;> (try rw [h]) <;> (try simp at h) <;> (try (exfalso; omega))))
  generalize hk2 : s.objs.length = k2 at hR
  generalize s.app [.cells (.dig (digOf r.text.1).1)] = s at hR
  have c := cellAt_known hR.o
  have ho := hR.o
  have hj := (List.getElem?_eq_some_iff.1 hR.o).1
  have hk1 := hR.f (k, .cells (.dig dig0)) (by simp)
  have hk2 := hR.f (k2, .cells (.dig (digOf r.text.1).1)) (by simp)
  dsimp only at hk1 hk2
  have hkl := (List.getElem?_eq_some_iff.1 hk1.2).1
  have c2 := cellAt_known hk2.2
  have n1 := hk1.1
  have n2 := hk2.1
  have n3 := hk2.1.symm
  have n4 := hk1.1.symm
  have m := hR.mono (G := F) (by simp +contextual)
  repeat' (first | (simp -dsimp only [↓reduceIte, go_sem, c, ho, hk1.2, hk2.2, c2, cellAt_setN, cellAt_setS, objs_setN, objs_setS, length_set, n1, n2, n3, n4, hkl]) | (refine arr_intro fun _ => ?_) | (refine later_intro ⟨keeps_nil, ?_⟩) | (refine later_intro ⟨keeps_refl, ?_⟩) | (with_reducible refine keeps_go (by simp [keeps_cons, keeps_none, objs_app, objs_app0] <;> fail) ?_) | (refine both_ways ?_ ?_) | (rw [wrap_i64 (by omega) (by omega)]) | (refine guardV_split (fun h => ?_) (fun h => ?_) <;> (try rw [h]) <;> (try simp at h) <;> (try (exfalso; omega))))
  · have e : r.dig = ((digOf r.text.1).1, { r.text.2 with e := 6 }) := by simp [Rdr.dig, *]
    rw [e] at hK
    exact hK _ ((m.err (by decide)).setO hle n1 hlt)
  all_goals
    have e : r.dig = ((digOf r.text.1).1, r.text.2) := by simp [Rdr.dig, *]
    rw [e] at hK
    exact hK _ (m.setO hle n1 hlt)
end Go.Aff.L10

/- Drawn regions by trees of orders, where what was read need not stay for ever. -/
namespace Go.Aff
set_option linter.unusedVariables false
set_option linter.unusedSimpArgs false

variable {P : Program} {σ σ' : AST} {ops : Array Oper} {τ : Env} {KE : Env → AST → Prop}

/-- Orders with a word on each operation: 0: it reads, and that must stay; 1: it may leave something behind; 2: it reads, and stands ahead of all from the first on that leaves something behind; 3: it leaves nothing behind. -/
inductive Tu where
  | nil
  | op (i k : Nat) (r : Tu)
  | fork (e : Nat) (a b : Tu)
  | cut (r : Tu)
def Tu.tr : Tu → Tr
  | .nil => .nil
  | .op i _ r => .op i r.tr
  | .fork e a b => .fork e a.tr b.tr
  | .cut r => r.tr
def Tu.all : Tu → List Nat
  | .nil => []
  | .op i k r => if k = 1 ∨ k = 3 then i :: r.all else r.all
  | .fork _ a b => a.all ++ b.all
  | .cut r => r.all
/-- Those from the first on that may leave something behind. -/
def Tu.effs : Tu → List Nat
  | .nil => []
  | .op i k r => if k = 1 then i :: r.all else r.effs
  | .fork _ a b => a.effs ++ b.effs
  | .cut r => r.effs
theorem Tu.effs_all : ∀ {T : Tu} {x : Nat}, x ∈ T.effs → x ∈ T.all
  | .nil, x, h => h
  | .op i k r, x, h => by
    simp only [Tu.effs] at h
    simp only [Tu.all]
    split at h
    · rename_i hk; rw [if_pos (.inl hk)]; exact h
    · have := Tu.effs_all h
      split
      · exact List.mem_cons_of_mem _ this
      · exact this
  | .fork _ a b, x, h => by
    simp only [Tu.effs, Tu.all, List.mem_append] at h ⊢
    exact h.imp Tu.effs_all Tu.effs_all
  | .cut r, x, h => by
    simp only [Tu.effs] at h
    simp only [Tu.all]
    exact Tu.effs_all h

def seqU (P : Program) (ops : Array Oper) : Tu → List Nat → Env → AST → (Env → AST → Prop) → Prop
  | .nil, ks, τ, σ, K => K τ σ
  | .op i 1 r, ks, τ, σ, K => match gop ops i with
    | none => False
    | some o => stepW P ops o τ σ fun v σ' => keeps ks σ σ' ∧ seqU P ops r ks (τ.putO o.dst v) σ' K
  | .op i 0 r, ks, τ, σ, K => match gop ops i with
    | none => False
    | some o => stepW P ops o τ σ fun v σ' => σ' = σ ∧ seqU P ops r (reads (ev τ) o.op ++ ks) (τ.putO o.dst v) σ' K
  | .op i _ r, ks, τ, σ, K => match gop ops i with
    | none => False
    | some o => stepW P ops o τ σ fun v σ' => σ' = σ ∧ seqU P ops r ks (τ.putO o.dst v) σ' K
  | .fork _ a b, ks, τ, σ, K => seqU P ops a ks τ σ K ∧ seqU P ops b ks τ σ K
  | .cut r, ks, τ, σ, K => seqU P ops r [] τ σ K

def flagsU (P : Program) (ops : Array Oper) : Tu → List Nat → Bool
  | .nil, _ => true
  | .op i k r, zs => (match ops[i]? with
    | none => false
    | some o => effO P o == (k == 1 || k == 3)) && (k == 0 || k == 1 || k == 3 || r.effs.all fun y => ahead (anc ops) y i) && flagsU P ops r (if k = 0 then i :: zs else zs)
  | .fork _ a b, zs => flagsU P ops a zs && flagsU P ops b zs
  | .cut r, zs => (zs.all fun z => r.effs.all fun y => ahead (anc ops) y z) && flagsU P ops r []

def pastU (P : Program) (ops : Array Oper) (ks zs : List Nat) (past : List (Nat × Env × AV)) (T : Tu) (σ : AST) : Prop :=
  ∀ x ∈ past, (validT P ops x σ ∧ x.1 ∈ zs ∧ ∀ o, ops[x.1]? = some o → ∀ k ∈ reads (ev x.2.1) o.op, k ∈ ks) ∨ (validT P ops x σ ∧ ∀ y ∈ T.effs, ahead (anc ops) y x.1 = true) ∨ (∀ y ∈ T.all, ahead (anc ops) y x.1 = true)

theorem seqU_pure (i k : Nat) (r : Tu) (ks zs : List Nat) (past : List (Nat × Env × AV)) (τ : Env) (σ : AST) (k0 : k ≠ 0) (k1 : k ≠ 1) (k3 : k ≠ 3)
    (ih : ∀ (past' : List (Nat × Env × AV)) (τ' : Env), flagsU P ops r zs = true → pastU P ops ks zs past' r σ → (∀ t, lenOk (τ' t)) → seqU P ops r ks τ' σ KE → awpT P ops r.tr past' τ' σ KE)
    (hf : flagsU P ops (.op i k r) zs = true) (hp : pastU P ops ks zs past (.op i k r) σ) (hlen : ∀ t, lenOk (τ t))
    (h : match gop ops i with
      | none => False
      | some o => stepW P ops o τ σ fun v σ' => σ' = σ ∧ seqU P ops r ks (τ.putO o.dst v) σ' KE) : awpT P ops (Tu.op i k r).tr past τ σ KE := by
  split at h
  · exact h.elim
  · rename_i o hk
    have hk : ops[i]? = some o := hk
    simp only [flagsU, hk, Bool.and_eq_true, beq_iff_eq] at hf
    have b0 : (k == 0) = false := by simpa using k0
    have b1 : (k == 1) = false := by simpa using k1
    have b3 : (k == 3) = false := by simpa using k3
    rw [b0, b1, b3, if_neg k0] at hf
    have he : effO P o = false := by simpa using hf.1.1
    have hall : (r.effs.all fun y => ahead (anc ops) y i) = true := by simpa using hf.1.2
    rw [List.all_eq_true] at hall
    simp only [Tu.tr, awpT, hk, he, Bool.false_eq_true, if_false]
    obtain ⟨v, hv, hkk⟩ := stepW_det hlen he h
    refine hkk _ fun hlv => ih _ _ hf.2 ?_ hlv hv.2
    intro x hx
    rcases List.mem_cons.1 hx with rfl | hx
    · right; left
      refine ⟨fun o' ho' => ?_, hall⟩
      dsimp only at ho' ⊢
      rw [hk] at ho'; cases ho'
      exact ⟨hlen, he, hkk _ ⟨rfl, rfl⟩⟩
    · rcases hp x hx with ⟨h0, h1⟩ | ⟨h0, h1⟩ | h0
      · exact .inl ⟨h0, h1⟩
      · exact .inr (.inl ⟨h0, fun y hy => h1 y (by simpa [Tu.effs, k1] using hy)⟩)
      · exact .inr (.inr fun y hy => h0 y (by simpa [Tu.all, k1, k3] using hy))
theorem seqU_awpT : ∀ (T : Tu) (ks zs : List Nat) (past : List (Nat × Env × AV)) (τ : Env) (σ : AST), flagsU P ops T zs = true → pastU P ops ks zs past T σ → (∀ t, lenOk (τ t)) → seqU P ops T ks τ σ KE → awpT P ops T.tr past τ σ KE
  | .nil, ks, zs, past, τ, σ, hf, hp, hlen, h => h
  | .fork e a b, ks, zs, past, τ, σ, hf, hp, hlen, h => by
    simp only [flagsU, Bool.and_eq_true] at hf
    simp only [seqU] at h
    refine ⟨seqU_awpT a ks zs past τ σ hf.1 (fun x hx => ?_) hlen h.1, seqU_awpT b ks zs past τ σ hf.2 (fun x hx => ?_) hlen h.2⟩
    · rcases hp x hx with h | ⟨h1, h2⟩ | h
      · exact .inl h
      · exact .inr (.inl ⟨h1, fun y hy => h2 y (by simp [Tu.effs, hy])⟩)
      · exact .inr (.inr fun y hy => h y (by simp [Tu.all, hy]))
    · rcases hp x hx with h | ⟨h1, h2⟩ | h
      · exact .inl h
      · exact .inr (.inl ⟨h1, fun y hy => h2 y (by simp [Tu.effs, hy])⟩)
      · exact .inr (.inr fun y hy => h y (by simp [Tu.all, hy]))
  | .cut r, ks, zs, past, τ, σ, hf, hp, hlen, h => by
    simp only [flagsU, Bool.and_eq_true, List.all_eq_true] at hf
    simp only [seqU] at h
    refine seqU_awpT r [] [] past τ σ hf.2 (fun x hx => ?_) hlen h
    rcases hp x hx with ⟨h0, hz, _⟩ | ⟨h0, h1⟩ | h0
    · exact .inr (.inl ⟨h0, fun y hy => hf.1 x.1 hz y hy⟩)
    · exact .inr (.inl ⟨h0, fun y hy => h1 y (by simpa [Tu.effs] using hy)⟩)
    · exact .inr (.inr fun y hy => h0 y (by simpa [Tu.all] using hy))
  | .op i 1 r, ks, zs, past, τ, σ, hf, hp, hlen, h => by
    simp only [seqU] at h
    split at h
    · exact h.elim
    · rename_i o hk
      have hk : ops[i]? = some o := hk
      simp only [flagsU, hk, Bool.and_eq_true, beq_iff_eq] at hf
      have he : effO P o = true := by simpa using hf.1.1
      simp only [Tu.tr, awpT, hk, he, if_true]
      refine stepW_mono (fun v σ' hh => ?_) h
      refine ⟨fun x hx hah o ho => ?_, fun hlv => seqU_awpT r ks zs past _ _ (by simpa using hf.2) ?_ hlv hh.2⟩
      · rcases hp x hx with ⟨h0, hz, h3⟩ | ⟨_, h0⟩ | h0
        · obtain ⟨h1, h2, h4⟩ := h0 o ho
          exact step_same h1 h2 (fun k hk => hh.1 k (h3 o ho k hk)) h4
        · rw [h0 i (by simp [Tu.effs])] at hah; cases hah
        · rw [h0 i (by simp [Tu.all])] at hah; cases hah
      · intro x hx
        rcases hp x hx with ⟨h0, hz, h3⟩ | ⟨_, h0⟩ | h0
        · left
          refine ⟨fun o ho => ?_, hz, h3⟩
          obtain ⟨h1, h2, h4⟩ := h0 o ho
          exact ⟨h1, h2, step_same h1 h2 (fun k hk => hh.1 k (h3 o ho k hk)) h4⟩
        · right; right
          intro y hy; exact h0 y (by simp [Tu.effs, hy])
        · right; right
          intro y hy; exact h0 y (by simp [Tu.all, hy])
  | .op i 3 r, ks, zs, past, τ, σ, hf, hp, hlen, h => by
    simp only [seqU] at h
    split at h
    · exact h.elim
    · rename_i o hk
      have hk : ops[i]? = some o := hk
      simp only [flagsU, hk, Bool.and_eq_true, beq_iff_eq] at hf
      have he : effO P o = true := by simpa using hf.1.1
      simp only [Tu.tr, awpT, hk, he, if_true]
      refine stepW_mono (fun v σ' hh => ?_) h
      obtain ⟨rfl, hh⟩ := hh
      refine ⟨fun x hx hah o ho => ?_, fun hlv => seqU_awpT r ks zs past _ _ (by simpa using hf.2) ?_ hlv hh⟩
      · rcases hp x hx with ⟨h0, h3⟩ | ⟨h0, _⟩ | h0
        · exact (h0 o ho).2.2
        · exact (h0 o ho).2.2
        · rw [h0 i (by simp [Tu.all])] at hah; cases hah
      · intro x hx
        rcases hp x hx with h0 | ⟨h0, h1⟩ | h0
        · exact .inl h0
        · exact .inr (.inl ⟨h0, fun y hy => h1 y (by simpa [Tu.effs] using hy)⟩)
        · exact .inr (.inr fun y hy => h0 y (by simp [Tu.all, hy]))
  | .op i 0 r, ks, zs, past, τ, σ, hf, hp, hlen, h => by
    simp only [seqU] at h
    split at h
    · exact h.elim
    · rename_i o hk
      have hk : ops[i]? = some o := hk
      simp only [flagsU, hk, Bool.and_eq_true, beq_iff_eq] at hf
      have he : effO P o = false := by simpa using hf.1.1
      simp only [Tu.tr, awpT, hk, he, Bool.false_eq_true, if_false]
      obtain ⟨v, hv, hkk⟩ := stepW_det hlen he h
      refine hkk _ fun hlv => seqU_awpT r _ (i :: zs) _ _ _ (by simpa using hf.2) ?_ hlv hv.2
      intro x hx
      rcases List.mem_cons.1 hx with rfl | hx
      · left
        refine ⟨fun o' ho' => ?_, List.mem_cons_self .., fun o' ho' k hkr => ?_⟩
        · dsimp only at ho' ⊢
          rw [hk] at ho'; cases ho'
          exact ⟨hlen, he, hkk _ ⟨rfl, rfl⟩⟩
        · dsimp only at ho' hkr
          rw [hk] at ho'; cases ho'
          exact List.mem_append_left _ hkr
      · rcases hp x hx with ⟨h0, hz, h1⟩ | ⟨h0, h1⟩ | h0
        · exact .inl ⟨h0, List.mem_cons_of_mem _ hz, fun o' ho' k hkr => List.mem_append_right _ (h1 o' ho' k hkr)⟩
        · exact .inr (.inl ⟨h0, fun y hy => h1 y (by simpa [Tu.effs] using hy)⟩)
        · exact .inr (.inr fun y hy => h0 y (by simpa [Tu.all] using hy))
  | .op i 2 r, ks, zs, past, τ, σ, hf, hp, hlen, h => seqU_pure i 2 r ks zs past τ σ (by decide) (by decide) (by decide) (fun past' K' h1 h2 h3 h4 => seqU_awpT r ks zs past' _ σ h1 h2 h3 h4) hf hp hlen (by simpa only [seqU] using h)
  | .op i (n + 4) r, ks, zs, past, τ, σ, hf, hp, hlen, h => seqU_pure i (n + 4) r ks zs past τ σ (by omega) (by omega) (by omega) (fun past' K' h1 h2 h3 h4 => seqU_awpT r ks zs past' _ σ h1 h2 h3 h4) hf hp hlen (by simpa only [seqU] using h)

theorem awp_drawU {id : Nat} {ops : Array Oper} {Q : Exit → Env → AST → Prop} (T : Tu) (ho : (trOk P ops T.tr && flagsU P ops T []) = true) (h : seqU P ops T [] τ σ (Q .normal)) : awp P (.region id ops true) Q τ σ := by
  rw [Bool.and_eq_true] at ho
  exact awp_drawTree _ ho.1 fun hlen => seqU_awpT T [] [] [] τ σ ho.2 (fun x hx => by simp at hx) hlen h

def seqU0 (P : Program) (ops : Array Oper) (o : Option Oper) (r : Tu) (ks : List Nat) (τ : Env) (σ : AST) (K : Env → AST → Prop) : Prop := match o with
  | none => False
  | some o => stepW P ops o τ σ fun v σ' => σ' = σ ∧ seqU P ops r (reads (ev τ) o.op ++ ks) (τ.putO o.dst v) σ' K
def seqU1 (P : Program) (ops : Array Oper) (o : Option Oper) (r : Tu) (ks : List Nat) (τ : Env) (σ : AST) (K : Env → AST → Prop) : Prop := match o with
  | none => False
  | some o => stepW P ops o τ σ fun v σ' => keeps ks σ σ' ∧ seqU P ops r ks (τ.putO o.dst v) σ' K
def seqU2 (P : Program) (ops : Array Oper) (o : Option Oper) (r : Tu) (ks : List Nat) (τ : Env) (σ : AST) (K : Env → AST → Prop) : Prop := match o with
  | none => False
  | some o => stepW P ops o τ σ fun v σ' => σ' = σ ∧ seqU P ops r ks (τ.putO o.dst v) σ' K
variable {ks : List Nat}
theorem seqU_nil : seqU P ops .nil ks τ σ KE = KE τ σ := nr rfl
theorem seqU_1 {i : Nat} {r : Tu} : seqU P ops (.op i 1 r) ks τ σ KE = seqU1 P ops (gop ops i) r ks τ σ KE := by simp only [seqU, seqU1]
theorem seqU_0 {i : Nat} {r : Tu} : seqU P ops (.op i 0 r) ks τ σ KE = seqU0 P ops (gop ops i) r ks τ σ KE := by simp only [seqU, seqU0]
theorem seqU_3 {i : Nat} {r : Tu} : seqU P ops (.op i 3 r) ks τ σ KE = seqU2 P ops (gop ops i) r ks τ σ KE := by simp only [seqU, seqU2]
theorem seqU_2 {i : Nat} {r : Tu} : seqU P ops (.op i 2 r) ks τ σ KE = seqU2 P ops (gop ops i) r ks τ σ KE := by simp only [seqU, seqU2]
theorem seqU_cut {r : Tu} : seqU P ops (.cut r) ks τ σ KE = seqU P ops r [] τ σ KE := by simp only [seqU]
theorem seqU_fork {e : Nat} {a b : Tu} : seqU P ops (.fork e a b) ks τ σ KE = Both (@Later ⟨seqU P ops a ks τ σ KE⟩) (@Later ⟨seqU P ops b ks τ σ KE⟩) := by
  simp only [seqU, Later, eq_iff_iff]
  exact ⟨fun h => ⟨h.1, h.2⟩, fun h => ⟨h.l, h.r⟩⟩
theorem seqU1_some {o : Oper} {r : Tu} : seqU1 P ops (some o) r ks τ σ KE = stepW P ops o τ σ (@Lam ⟨fun v σ' => @Later ⟨keeps ks σ σ' ∧ seqU P ops r ks (τ.putO o.dst v) σ' KE⟩⟩) := nr rfl
theorem seqU0_some {o : Oper} {r : Tu} : seqU0 P ops (some o) r ks τ σ KE = stepW P ops o τ σ (@Lam ⟨fun v σ' => σ' = σ ∧ @Later ⟨seqU P ops r (reads (ev τ) o.op ++ ks) (τ.putO o.dst v) σ' KE⟩⟩) := nr rfl
theorem seqU2_some {o : Oper} {r : Tu} : seqU2 P ops (some o) r ks τ σ KE = stepW P ops o τ σ (@Lam ⟨fun v σ' => σ' = σ ∧ @Later ⟨seqU P ops r ks (τ.putO o.dst v) σ' KE⟩⟩) := nr rfl
attribute [go_sem ↓] seqU_nil seqU_0 seqU_1 seqU_2 seqU_3 seqU_fork seqU_cut seqU0_some seqU1_some seqU2_some
end Go.Aff

