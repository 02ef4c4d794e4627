import Derived.Test.YtikbkaedemmpmaaG26

set_option linter.unusedSimpArgs false
set_option linter.unusedVariables false

/- Layer 10, walked: the reader. -/
namespace Go.Aff.L10
open Go.Proofs Go.Aff Go.Aff.L01 Classical
set_option linter.unusedVariables false
set_option linter.unusedSimpArgs false
set_option maxRecDepth 20000
attribute [local go_sem] push_app app_app length_app cellAt_app cellAt_app0 set_app set_app0 objs_app objs_app0 List.cons_append List.nil_append List.length_cons List.length_nil List.getElem?_cons_zero List.getElem?_cons_succ List.set_cons_zero List.set_cons_succ List.length_map
attribute [-go_sem] cellAt_new
attribute [-simp] List.length_flatMap
attribute [local go_sem] Try.underlying3 Try.underlying4 Try.underlying5 Try.underlying9 Try.underlying36 Try.underlying37 Try.underlying42 Try.underlying45 Try.underlying31 Try.underlying61 subPs_0 subAt_0 subSet_0 subPs_1 subAt_1 subSet_1 subPs_2 subAt_2 subSet_2 subPs_3 subAt_3 subSet_3 subPs_4 subAt_4 subSet_4 subPs_5 subAt_5 subSet_5 sizes_sub shapes_sub fits_sub zero_sub zt_sub built_sub Try.underlying41 pendPs_0 pendAt_0 pendSet_0 pendPs_1 pendAt_1 pendSet_1 pendPs_2 pendAt_2 pendSet_2 pendPs_3 pendAt_3 pendSet_3 pendPs_4 pendAt_4 pendSet_4 pendPs_5 pendAt_5 pendSet_5 sizes_pend shapes_pend fits_pend zero_pend zt_pend built_pend Try.underlying92 repPs_0 repAt_0 repSet_0 repPs_1 repAt_1 repSet_1 repPs_2 repAt_2 repSet_2 repPs_3 repAt_3 repSet_3 repPs_4 repAt_4 repSet_4 repPs_5 repAt_5 repSet_5 repPs_6 repAt_6 repSet_6 repPs_7 repAt_7 repSet_7 repPs_8 repAt_8 repSet_8 repPs_9 repAt_9 repSet_9 sizes_rep shapes_rep fits_rep zero_rep zt_rep built_rep Try.underlying44 blobPs_0 blobAt_0 blobSet_0 blobPs_1 blobAt_1 blobSet_1 blobPs_2 blobAt_2 blobSet_2 blobPs_3 blobAt_3 blobSet_3 sizes_blob shapes_blob fits_blob zero_blob zt_blob built_blob Try.underlying39 msgPs_0 msgAt_0 msgSet_0 msgPs_1 msgAt_1 msgSet_1 msgPs_2 msgAt_2 msgSet_2 msgPs_3 msgAt_3 msgSet_3 msgPs_4 msgAt_4 msgSet_4 msgPs_5 msgAt_5 msgSet_5 msgPs_6 msgAt_6 msgSet_6 msgPs_7 msgAt_7 msgSet_7 msgPs_8 msgAt_8 msgSet_8 msgPs_9 msgAt_9 msgSet_9 sizes_msg shapes_msg fits_msg zero_msg zt_msg built_msg Try.underlying47 at_Ps_0 at_Set_0 at_Ps_1 at_Set_1 sizes_at_ shapes_at_
attribute [local go_sem] fits3 fits4 fits5 fits9 fits23 fits26 fits31 fits34 fits52 zt3 zero3 zt34 zero34 zt23 zero23 bin_sub_eql bin_pend_eql bin_pend_neq bin_blob_eql bin_dig23_eql bin_dig23_neq slice23
attribute [local go_sem ↓] blockQ_exit2
attribute [local simp] dig_ext
set_option maxRecDepth 200000 in
theorem built23 : Built Try.prog 37 = True := eq_true (by unfold Built; rw [Try.underlying37]; decide +kernel)
theorem appc {α : Type} {a : α} {l m : List α} : List.append (a :: l) m = a :: List.append l m := rfl
theorem appn {α : Type} {m : List α} : List.append [] m = m := rfl
structure Rdr where
  s : List UInt8
  at_ : Int
  e : Int
def rdr0 : Rdr := ⟨[], 0, 0⟩
def rdrPs (x : Rdr) : List AV := [.str x.s, .int .i64 x.at_, .int .i64 x.e]
abbrev rdrV (x : Rdr) : AV := .agg (rdrPs x)
theorem rdrPs_0 {x : Rdr} : (rdrPs x)[0]? = some (.str x.s) := nr rfl
theorem rdrAt_0 {x : Rdr} {v : AV} : partIs Try.prog 71 (rdrPs x) 0 v = fits Try.prog 9 v := by rw [partIs_of (o := 0) (T := 9) (by kernel_rfl)]; simp [rdrPs, AV.sizes, AV.size]
theorem rdrSet_0 {x : Rdr} {y : List UInt8} : (rdrPs x).set 0 (.str y) = rdrPs { x with s := y } := nr rfl
theorem rdrPs_1 {x : Rdr} : (rdrPs x)[1]? = some (.int .i64 x.at_) := nr rfl
theorem rdrAt_1 {x : Rdr} {v : AV} : partIs Try.prog 71 (rdrPs x) 1 v = fits Try.prog 3 v := by rw [partIs_of (o := 1) (T := 3) (by kernel_rfl)]; simp [rdrPs, AV.sizes, AV.size]
theorem rdrSet_1 {x : Rdr} {y : Int} : (rdrPs x).set 1 (.int .i64 y) = rdrPs { x with at_ := y } := nr rfl
theorem rdrPs_2 {x : Rdr} : (rdrPs x)[2]? = some (.int .i64 x.e) := nr rfl
theorem rdrAt_2 {x : Rdr} {v : AV} : partIs Try.prog 71 (rdrPs x) 2 v = fits Try.prog 31 v := by rw [partIs_of (o := 2) (T := 31) (by kernel_rfl)]; simp [rdrPs, AV.sizes, AV.size]
theorem rdrSet_2 {x : Rdr} {y : Int} : (rdrPs x).set 2 (.int .i64 y) = rdrPs { x with e := y } := nr rfl
theorem sizes_rdr {x : Rdr} : AV.sizes (rdrPs x) = 3 := by simp [rdrPs, AV.sizes, AV.size]
theorem shapes_rdr {x : Rdr} : AV.shapes (rdrPs x) = [.leaf, .leaf, .leaf] := by simp [rdrPs, AV.shapes, AV.shape]
theorem fits_rdr {v : AV} : fits Try.prog 71 v = (v.isAgg = true ∧ v.size = 3) := fits_agg (by kernel_rfl) (by kernel_rfl)
theorem zero_rdr : zeroA Try.prog 12 71 = .agg (rdrPs rdr0) := by kernel_rfl
theorem zt_rdr : ZeroOf Try.prog 71 (.agg (rdrPs rdr0)) = True := eq_true ⟨_, _, rfl, rfl, rfl, rfl, rfl⟩
theorem built_rdr : Built Try.prog 71 = True := eq_true (by unfold Built; rw [Try.underlying71]; decide +kernel)
theorem strip_rdr {x : Rdr} : AV.strips (rdrPs x) = rdrPs x := by simp [rdrPs, AV.strips, AV.strip]
theorem noRef_rdr {x : Rdr} : AV.noRefs (rdrPs x) = true := by simp [rdrPs, AV.noRefs, AV.noRef]

attribute [local go_sem] rdrPs_0 rdrAt_0 rdrSet_0 rdrPs_1 rdrAt_1 rdrSet_1 rdrPs_2 rdrAt_2 rdrSet_2 sizes_rdr shapes_rdr fits_rdr zero_rdr zt_rdr built_rdr Try.underlying71 Try.underlying69 Try.underlying75

theorem prog_num {s : List UInt8} {i : Int} (h : (numR s i).2.2 = 0) : i < (numR s i).2.1 ∧ (numR s i).2.1 ≤ s.length := by
  unfold numR at h ⊢
  by_cases h1 : i < 0 ∨ (s.length : Int) < i
  · rw [if_pos h1] at h; simp at h
  · rw [if_neg h1] at h ⊢
    have := numP_prog (s := s) (q := i.toNat) (by omega) h
    omega
theorem prog_text {s : List UInt8} {i : Int} (h : (textR s i).2.2 = 0) : i < (textR s i).2.1 ∧ (textR s i).2.1 ≤ s.length := by
  unfold textR at h ⊢
  by_cases h1 : i < 0 ∨ (s.length : Int) < i
  · rw [if_pos h1] at h; simp at h
  · rw [if_neg h1] at h ⊢
    have := textP_prog (s := s) (q := i.toNat) (by omega) h
    omega
theorem readL_prog {α : Type} {one : Nat → α × Int × Int} {s : List UInt8} : ∀ (k p : Nat) (acc : List α), s.length - p ≤ k → p ≤ s.length → (readL one s p acc).2.2 = 0 → (p : Int) < (readL one s p acc).2.1 ∧ (readL one s p acc).2.1 ≤ s.length := by
  intro k
  induction k with
  | zero =>
    intro p acc hk hp h
    have : p = s.length := by omega
    rw [readL, if_pos this] at h; simp at h
  | succ k ih =>
    intro p acc hk hp h
    rw [readL] at h ⊢
    by_cases h1 : p = s.length
    · rw [if_pos h1] at h; simp at h
    · rw [if_neg h1] at h ⊢
      by_cases h2 : bAt s p = 41
      · rw [if_pos h2]; dsimp only; omega
      · rw [if_neg h2] at h ⊢
        by_cases h3 : 512 ≤ acc.length
        · rw [if_pos h3] at h; simp at h
        · rw [if_neg h3] at h ⊢
          by_cases h4 : (one p).2.2 ≠ 0
          · rw [if_pos h4] at h; exact absurd h h4
          · rw [if_neg h4] at h ⊢
            by_cases h5 : (p : Int) < (one p).2.1 ∧ (one p).2.1 ≤ s.length
            · rw [dif_pos h5] at h ⊢
              have := ih (one p).2.1.toNat _ (by omega) (by omega) h
              omega
            · rw [dif_neg h5] at h; simp at h
theorem readR_prog {α : Type} {one : Nat → α × Int × Int} {s : List UInt8} {i : Int} (h : (readR one s i).2.2 = 0) : i < (readR one s i).2.1 ∧ (readR one s i).2.1 ≤ s.length := by
  unfold readR at h ⊢
  by_cases h1 : i < 0 ∨ (s.length : Int) < i
  · rw [if_pos h1] at h; simp at h
  · rw [if_neg h1] at h ⊢
    by_cases h2 : i.toNat = s.length
    · rw [if_pos h2] at h; simp at h
    · rw [if_neg h2] at h ⊢
      by_cases h3 : bAt s i.toNat ≠ 40
      · rw [if_pos h3] at h; simp at h
      · rw [if_neg h3] at h ⊢
        have := readL_prog (one := one) _ (i.toNat + 1) [] (Nat.le_refl _) (by omega) h
        omega

def slV {α : Type} (f : α → AV) (l : List α) : AV := .slice (tk' l) (l.map f)
theorem tupL_slV {α : Type} {f : α → AV} {x : List α × Int × Int} : tupL f x = .tuple [slV f x.1, .int .i64 x.2.1, .int .i64 x.2.2] := by
  unfold tupL slV tk'
  split <;> simp_all
theorem set_set {s : AST} {j : Nat} {a b : AObj} : (s.set j a).set j b = s.set j b := by simp [AST.set]

/-- A reader in memory, and what else is known of memory. -/
structure RF (σ0 s : AST) (T : List (Nat × Nat)) (j : Nat) (r : Rdr) (F : List (Nat × AObj)) : Prop where
  x : Ext σ0 s
  t : s.toks = T
  jn : σ0.objs.length ≤ j
  o : s.objs[j]? = some (.cells (rdrV r))
  f : ∀ x ∈ F, x.1 ≠ j ∧ s.objs[x.1]? = some x.2
  p : r.e = 0 → 0 ≤ r.at_ ∧ r.at_ ≤ r.s.length
  l : r.s.length ≤ 9223372036854775807
section
variable {σ0 s : AST} {T : List (Nat × Nat)} {j : Nat} {r : Rdr} {F G : List (Nat × AObj)}
theorem RF.step {a e : Int} (h : RF σ0 s T j r F) (hp : e = 0 → r.at_ < a ∧ a ≤ r.s.length ∧ 0 ≤ r.at_) : RF σ0 (s.set j (.cells (rdrV { r with at_ := a, e := e }))) T j { r with at_ := a, e := e } F := by
  have hj := (List.getElem?_eq_some_iff.1 h.o).1
  refine ⟨h.x.set h.jn, h.t, h.jn, ?_, fun x hx => ⟨(h.f x hx).1, ?_⟩, fun h0 => ?_, h.l⟩
  · simp only [AST.set]; rw [List.getElem?_set_self hj]
  · simp only [AST.set]; rw [List.getElem?_set_ne (fun e => (h.f x hx).1 e.symm)]; exact (h.f x hx).2
  · have := hp h0; dsimp only at *; omega
theorem RF.err {e : Int} (h : RF σ0 s T j r F) (he : e ≠ 0) : RF σ0 (s.set j (.cells (rdrV { r with e := e }))) T j { r with e := e } F := h.step (a := r.at_) (fun h0 => absurd h0 he)
theorem RF.mono (h : RF σ0 s T j r F) (hg : ∀ x ∈ G, x ∈ F) : RF σ0 s T j r G := ⟨h.x, h.t, h.jn, h.o, fun x hx => h.f x (hg x hx), h.p, h.l⟩
theorem RF.push {o : AObj} (h : RF σ0 s T j r F) : RF σ0 (s.app [o]) T j r ((s.objs.length, o) :: F) := by
  have hj : j < s.objs.length := (List.getElem?_eq_some_iff.1 h.o).1
  refine ⟨h.x.trans (Ext.app _ _), h.t, h.jn, objs_known_app h.o _, fun x hx => ?_, h.p, h.l⟩
  rcases List.mem_cons.1 hx with rfl | hx
  · exact ⟨by dsimp only; omega, objs_app0⟩
  · exact ⟨(h.f x hx).1, objs_known_app (h.f x hx).2 _⟩
theorem RF.app {l : List AObj} (h : RF σ0 s T j r F) : RF σ0 (s.app l) T j r F :=
  ⟨h.x.trans (Ext.app _ _), h.t, h.jn, objs_known_app h.o _, fun x hx => ⟨(h.f x hx).1, objs_known_app (h.f x hx).2 _⟩, h.p, h.l⟩
theorem RF.cell {k : Nat} {v : AV} (h : RF σ0 s T j r F) (hm : (k, AObj.cells v) ∈ F) (p : List Nat) : cellAt s k p = v.at p := cellAt_known (h.f _ hm).2 p
/-- The first of the known objects is put anew. -/
theorem RF.upd {k : Nat} {o o' : AObj} (h : RF σ0 s T j r ((k, o) :: F)) (hk : σ0.objs.length ≤ k) (hF : ∀ x ∈ F, x.1 ≠ k) : RF σ0 (s.set k o') T j r ((k, o') :: F) := by
  have h1 := h.f (k, o) (List.mem_cons_self ..)
  have hkl := (List.getElem?_eq_some_iff.1 h1.2).1
  refine ⟨h.x.set hk, h.t, h.jn, ?_, fun x hx => ?_, h.p, h.l⟩
  · simp only [AST.set]; rw [List.getElem?_set_ne h1.1]; exact h.o
  · rcases List.mem_cons.1 hx with rfl | hx
    · exact ⟨h1.1, by simp only [AST.set]; rw [List.getElem?_set_self hkl]⟩
    · have h2 := h.f x (List.mem_cons_of_mem _ hx)
      exact ⟨h2.1, by simp only [AST.set]; rw [List.getElem?_set_ne (fun e => hF x hx e.symm)]; exact h2.2⟩
end
def Rdr.int (r : Rdr) : Int × Rdr := if r.e ≠ 0 then (0, r) else ((numR r.s r.at_).1, { r with at_ := (numR r.s r.at_).2.1, e := (numR r.s r.at_).2.2 })
def Rdr.text (r : Rdr) : List UInt8 × Rdr := if r.e ≠ 0 then ([], r) else ((textR r.s r.at_).1, { r with at_ := (textR r.s r.at_).2.1, e := (textR r.s r.at_).2.2 })
abbrev intsR (s : List UInt8) (i : Int) : List Int × Int × Int := readR (numP s) s i
def Rdr.ints (r : Rdr) : List Int × Rdr := if r.e ≠ 0 then ([], r) else ((intsR r.s r.at_).1, { r with at_ := (intsR r.s r.at_).2.1, e := (intsR r.s r.at_).2.2 })
theorem withInt_c {r : Rdr} {T : List (Nat × Nat)} {j : Nat} {F : List (Nat × AObj)} {σ0 σ : AST} {K : AV → AST → Prop} (hR : RF σ0 σ T j r F) (hK : ∀ s, RF σ0 s T j r.int.2 F → K (.int .i64 r.int.1) s) : TCalls Try.prog 45 [.ptr (some (j, [])), .fn (.func 46) [] []] σ K := by
  refine tcalls_walk Try.f45 _ [.tmp 4] Try.func45 rfl rfl rfl mixed (Nat.le_of_ble_eq_true rfl) rfl fun hlen => ?_
  have c := cellAt_known hR.o
  have ho := hR.o
  have hj := (List.getElem?_eq_some_iff.1 hR.o).1
  have hl := hR.l
  have s1 : ∀ o, (σ.set j o).objs[j]? = some o := fun o => by simp only [AST.set]; rw [List.getElem?_set_self hj]
  have s2 : ∀ v p, cellAt (σ.set j (.cells v)) j p = v.at p := fun v p => cellAt_known (s1 _) p
  by_cases he : r.e = 0
  · have hp := hR.p he
    repeat' (first | (simp -dsimp only [↓reduceIte, go_sem, c, he, ho, s1, s2, tup3, tupT]) | (refine arr_intro fun _ => ?_) | (refine later_intro ⟨keeps_nil, ?_⟩) | (refine later_intro ⟨keeps_refl, ?_⟩) | (with_reducible refine keeps_go ?_ ?_; focus (first | (simp [keeps_cons, keeps_none, objs_app, objs_app0]; done) | (simp only [keeps_cons, keeps_none, objs_app0, objs_app, and_true]; first | rfl | exact ⟨rfl, rfl⟩ | exact ⟨rfl, rfl, rfl⟩))) | (with_reducible refine (And.intro (a := keeps _ _ _) ?_ ?_); focus (first | (simp [keeps_cons, keeps_none, objs_app, objs_app0]; done) | (simp only [keeps_cons, keeps_none, objs_app0, objs_app, and_true]; first | rfl | exact ⟨rfl, rfl⟩ | exact ⟨rfl, rfl, rfl⟩))) | (refine both_ways ?_ ?_) | (rw [wrap_i64 (by omega) (by omega)]) | (refine guardV_split (fun h => ?_) (fun h => ?_) <;> (try rw [h]) <;> (try simp at h) <;> (try (exfalso; omega))) | (with_reducible refine awp_drawT (id := 4) (.op 0 2 (.op 1 2 (.op 2 2 (.op 3 2 (.op 4 2 (.op 5 2 (.op 6 2 (.op 7 2 (.op 8 2 (.op 9 1 (.op 10 2 (.op 11 2 (.op 12 2 (.op 13 2 (.op 14 2 (.op 15 2 (.op 16 2 .nil))))))))))))))))) (by kernel_rfl) ?_) | (refine L01.readNumber_c (by omega) (by omega) ?_) | (rw [tupL_slV]))
    have e : r.int = ((numR r.s r.at_).1, { r with at_ := (numR r.s r.at_).2.1, e := (numR r.s r.at_).2.2 }) := by rw [Rdr.int, if_neg (by simp [he])]
    rw [e] at hK
    refine hK _ ?_
    rw [set_set]
    exact hR.step fun h0 => by have := prog_num h0; omega
  · repeat' (first | (simp -dsimp only [↓reduceIte, go_sem, c, he, ho]) | (refine arr_intro fun _ => ?_) | (refine later_intro ⟨keeps_nil, ?_⟩) | (refine later_intro ⟨keeps_refl, ?_⟩) | (with_reducible refine keeps_go ?_ ?_; focus (first | (simp [keeps_cons, keeps_none, objs_app, objs_app0]; done) | (simp only [keeps_cons, keeps_none, objs_app0, objs_app, and_true]; first | rfl | exact ⟨rfl, rfl⟩ | exact ⟨rfl, rfl, rfl⟩))) | (with_reducible refine (And.intro (a := keeps _ _ _) ?_ ?_); focus (first | (simp [keeps_cons, keeps_none, objs_app, objs_app0]; done) | (simp only [keeps_cons, keeps_none, objs_app0, objs_app, and_true]; first | rfl | exact ⟨rfl, rfl⟩ | exact ⟨rfl, rfl, rfl⟩))) | (refine both_ways ?_ ?_) | (rw [wrap_i64 (by omega) (by omega)]) | (refine guardV_split (fun h => ?_) (fun h => ?_) <;> (try rw [h]) <;> (try simp at h) <;> (try (exfalso; omega))))
    have e : r.int = (0, r) := by rw [Rdr.int, if_pos he]
    rw [e] at hK
    exact hK _ hR
theorem withText_c {r : Rdr} {T : List (Nat × Nat)} {j : Nat} {F : List (Nat × AObj)} {σ0 σ : AST} {K : AV → AST → Prop} (hR : RF σ0 σ T j r F) (hK : ∀ s, RF σ0 s T j r.text.2 F → K (.str r.text.1) s) : TCalls Try.prog 66 [.ptr (some (j, [])), .fn (.func 67) [] []] σ K := by
  refine tcalls_walk Try.f66 _ [.tmp 4] Try.func66 rfl rfl rfl mixed (Nat.le_of_ble_eq_true rfl) rfl fun hlen => ?_
  have c := cellAt_known hR.o
  have ho := hR.o
  have hj := (List.getElem?_eq_some_iff.1 hR.o).1
  have hl := hR.l
  have s1 : ∀ o, (σ.set j o).objs[j]? = some o := fun o => by simp only [AST.set]; rw [List.getElem?_set_self hj]
  have s2 : ∀ v p, cellAt (σ.set j (.cells v)) j p = v.at p := fun v p => cellAt_known (s1 _) p
  by_cases he : r.e = 0
  · have hp := hR.p he
    repeat' (first | (simp -dsimp only [↓reduceIte, go_sem, c, he, ho, s1, s2, tup3, tupT]) | (refine arr_intro fun _ => ?_) | (refine later_intro ⟨keeps_nil, ?_⟩) | (refine later_intro ⟨keeps_refl, ?_⟩) | (with_reducible refine keeps_go ?_ ?_; focus (first | (simp [keeps_cons, keeps_none, objs_app, objs_app0]; done) | (simp only [keeps_cons, keeps_none, objs_app0, objs_app, and_true]; first | rfl | exact ⟨rfl, rfl⟩ | exact ⟨rfl, rfl, rfl⟩))) | (with_reducible refine (And.intro (a := keeps _ _ _) ?_ ?_); focus (first | (simp [keeps_cons, keeps_none, objs_app, objs_app0]; done) | (simp only [keeps_cons, keeps_none, objs_app0, objs_app, and_true]; first | rfl | exact ⟨rfl, rfl⟩ | exact ⟨rfl, rfl, rfl⟩))) | (refine both_ways ?_ ?_) | (rw [wrap_i64 (by omega) (by omega)]) | (refine guardV_split (fun h => ?_) (fun h => ?_) <;> (try rw [h]) <;> (try simp at h) <;> (try (exfalso; omega))) | (with_reducible refine awp_drawT (id := 4) (.op 0 2 (.op 1 2 (.op 2 2 (.op 3 2 (.op 4 2 (.op 5 2 (.op 6 2 (.op 7 2 (.op 8 2 (.op 9 1 (.op 10 2 (.op 11 2 (.op 12 2 (.op 13 2 (.op 14 2 (.op 15 2 (.op 16 2 .nil))))))))))))))))) (by kernel_rfl) ?_) | (refine L01.readText_c (by omega) (by omega) ?_) | (rw [tupL_slV]))
    have e : r.text = ((textR r.s r.at_).1, { r with at_ := (textR r.s r.at_).2.1, e := (textR r.s r.at_).2.2 }) := by rw [Rdr.text, if_neg (by simp [he])]
    rw [e] at hK
    refine hK _ ?_
    rw [set_set]
    exact hR.step fun h0 => by have := prog_text h0; omega
  · repeat' (first | (simp -dsimp only [↓reduceIte, go_sem, c, he, ho]) | (refine arr_intro fun _ => ?_) | (refine later_intro ⟨keeps_nil, ?_⟩) | (refine later_intro ⟨keeps_refl, ?_⟩) | (with_reducible refine keeps_go ?_ ?_; focus (first | (simp [keeps_cons, keeps_none, objs_app, objs_app0]; done) | (simp only [keeps_cons, keeps_none, objs_app0, objs_app, and_true]; first | rfl | exact ⟨rfl, rfl⟩ | exact ⟨rfl, rfl, rfl⟩))) | (with_reducible refine (And.intro (a := keeps _ _ _) ?_ ?_); focus (first | (simp [keeps_cons, keeps_none, objs_app, objs_app0]; done) | (simp only [keeps_cons, keeps_none, objs_app0, objs_app, and_true]; first | rfl | exact ⟨rfl, rfl⟩ | exact ⟨rfl, rfl, rfl⟩))) | (refine both_ways ?_ ?_) | (rw [wrap_i64 (by omega) (by omega)]) | (refine guardV_split (fun h => ?_) (fun h => ?_) <;> (try rw [h]) <;> (try simp at h) <;> (try (exfalso; omega))))
    have e : r.text = ([], r) := by rw [Rdr.text, if_pos he]
    rw [e] at hK
    exact hK _ hR
theorem withInts_c {r : Rdr} {T : List (Nat × Nat)} {j : Nat} {F : List (Nat × AObj)} {σ0 σ : AST} {K : AV → AST → Prop} (hR : RF σ0 σ T j r F) (hK : ∀ s, RF σ0 s T j r.ints.2 F → K (slV (AV.int .i64) r.ints.1) s) : TCalls Try.prog 50 [.ptr (some (j, [])), .fn (.func 51) [] []] σ K := by
  refine tcalls_walk Try.f50 _ [.tmp 4] Try.func50 rfl rfl rfl mixed (Nat.le_of_ble_eq_true rfl) rfl fun hlen => ?_
  have c := cellAt_known hR.o
  have ho := hR.o
  have hj := (List.getElem?_eq_some_iff.1 hR.o).1
  have hl := hR.l
  have s1 : ∀ o, (σ.set j o).objs[j]? = some o := fun o => by simp only [AST.set]; rw [List.getElem?_set_self hj]
  have s2 : ∀ v p, cellAt (σ.set j (.cells v)) j p = v.at p := fun v p => cellAt_known (s1 _) p
  by_cases he : r.e = 0
  · have hp := hR.p he
    repeat' (first | (simp -dsimp only [↓reduceIte, go_sem, c, he, ho, s1, s2, tup3, tupT]) | (refine arr_intro fun _ => ?_) | (refine later_intro ⟨keeps_nil, ?_⟩) | (refine later_intro ⟨keeps_refl, ?_⟩) | (with_reducible refine keeps_go ?_ ?_; focus (first | (simp [keeps_cons, keeps_none, objs_app, objs_app0]; done) | (simp only [keeps_cons, keeps_none, objs_app0, objs_app, and_true]; first | rfl | exact ⟨rfl, rfl⟩ | exact ⟨rfl, rfl, rfl⟩))) | (with_reducible refine (And.intro (a := keeps _ _ _) ?_ ?_); focus (first | (simp [keeps_cons, keeps_none, objs_app, objs_app0]; done) | (simp only [keeps_cons, keeps_none, objs_app0, objs_app, and_true]; first | rfl | exact ⟨rfl, rfl⟩ | exact ⟨rfl, rfl, rfl⟩))) | (refine both_ways ?_ ?_) | (rw [wrap_i64 (by omega) (by omega)]) | (refine guardV_split (fun h => ?_) (fun h => ?_) <;> (try rw [h]) <;> (try simp at h) <;> (try (exfalso; omega))) | (with_reducible refine awp_drawT (id := 4) (.op 0 2 (.op 1 2 (.op 2 2 (.op 3 2 (.op 4 2 (.op 5 2 (.op 6 2 (.op 7 2 (.op 8 2 (.op 9 1 (.op 10 2 (.op 11 2 (.op 12 2 (.op 13 2 (.op 14 2 (.op 15 2 (.op 16 2 .nil))))))))))))))))) (by kernel_rfl) ?_) | (refine L01.readNumbers_c (by omega) (by omega) ?_) | (rw [tupL_slV]))
    have e : r.ints = ((intsR r.s r.at_).1, { r with at_ := (intsR r.s r.at_).2.1, e := (intsR r.s r.at_).2.2 }) := by rw [Rdr.ints, if_neg (by simp [he])]
    rw [e] at hK
    refine hK _ ?_
    rw [set_set]
    exact hR.step fun h0 => by have := readR_prog h0; omega
  · repeat' (first | (simp -dsimp only [↓reduceIte, go_sem, c, he, ho]) | (refine arr_intro fun _ => ?_) | (refine later_intro ⟨keeps_nil, ?_⟩) | (refine later_intro ⟨keeps_refl, ?_⟩) | (with_reducible refine keeps_go ?_ ?_; focus (first | (simp [keeps_cons, keeps_none, objs_app, objs_app0]; done) | (simp only [keeps_cons, keeps_none, objs_app0, objs_app, and_true]; first | rfl | exact ⟨rfl, rfl⟩ | exact ⟨rfl, rfl, rfl⟩))) | (with_reducible refine (And.intro (a := keeps _ _ _) ?_ ?_); focus (first | (simp [keeps_cons, keeps_none, objs_app, objs_app0]; done) | (simp only [keeps_cons, keeps_none, objs_app0, objs_app, and_true]; first | rfl | exact ⟨rfl, rfl⟩ | exact ⟨rfl, rfl, rfl⟩))) | (refine both_ways ?_ ?_) | (rw [wrap_i64 (by omega) (by omega)]) | (refine guardV_split (fun h => ?_) (fun h => ?_) <;> (try rw [h]) <;> (try simp at h) <;> (try (exfalso; omega))))
    have e : r.ints = ([], r) := by rw [Rdr.ints, if_pos he]
    rw [e] at hK
    exact hK _ hR
theorem int_c {r : Rdr} {T : List (Nat × Nat)} {j : Nat} {F : List (Nat × AObj)} {σ0 σ : AST} {K : AV → AST → Prop} (h : RF σ0 σ T j r F) (hK : ∀ s, RF σ0 s T j r.int.2 F → K (.int .i64 r.int.1) s) : TCalls Try.prog 25 [.ptr (some (j, []))] σ K := by
  refine tcalls_walk Try.f25 _ [.tmp 2] Try.func25 rfl rfl rfl mixed (Nat.le_of_ble_eq_true rfl) rfl fun hlen => ?_
  simp -dsimp only [↓reduceIte, go_sem]
  refine withInt_c h fun s h => ?_
  repeat' (first | (simp -dsimp only [↓reduceIte, go_sem]) | (refine arr_intro fun _ => ?_) | (refine later_intro ⟨keeps_nil, ?_⟩) | (refine later_intro ⟨keeps_refl, ?_⟩) | (with_reducible refine keeps_go ?_ ?_; focus (first | (simp [keeps_cons, keeps_none, objs_app, objs_app0]; done) | (simp only [keeps_cons, keeps_none, objs_app0, objs_app, and_true]; first | rfl | exact ⟨rfl, rfl⟩ | exact ⟨rfl, rfl, rfl⟩))) | (with_reducible refine (And.intro (a := keeps _ _ _) ?_ ?_); focus (first | (simp [keeps_cons, keeps_none, objs_app, objs_app0]; done) | (simp only [keeps_cons, keeps_none, objs_app0, objs_app, and_true]; first | rfl | exact ⟨rfl, rfl⟩ | exact ⟨rfl, rfl, rfl⟩))) | (refine both_ways ?_ ?_) | (rw [wrap_i64 (by omega) (by omega)]) | (refine guardV_split (fun h => ?_) (fun h => ?_) <;> (try rw [h]) <;> (try simp at h) <;> (try (exfalso; omega))))
  exact hK s h
theorem rtext_c {r : Rdr} {T : List (Nat × Nat)} {j : Nat} {F : List (Nat × AObj)} {σ0 σ : AST} {K : AV → AST → Prop} (h : RF σ0 σ T j r F) (hK : ∀ s, RF σ0 s T j r.text.2 F → K (.str r.text.1) s) : TCalls Try.prog 47 [.ptr (some (j, []))] σ K := by
  refine tcalls_walk Try.f47 _ [.tmp 2] Try.func47 rfl rfl rfl mixed (Nat.le_of_ble_eq_true rfl) rfl fun hlen => ?_
  simp -dsimp only [↓reduceIte, go_sem]
  refine withText_c h fun s h => ?_
  repeat' (first | (simp -dsimp only [↓reduceIte, go_sem]) | (refine arr_intro fun _ => ?_) | (refine later_intro ⟨keeps_nil, ?_⟩) | (refine later_intro ⟨keeps_refl, ?_⟩) | (with_reducible refine keeps_go ?_ ?_; focus (first | (simp [keeps_cons, keeps_none, objs_app, objs_app0]; done) | (simp only [keeps_cons, keeps_none, objs_app0, objs_app, and_true]; first | rfl | exact ⟨rfl, rfl⟩ | exact ⟨rfl, rfl, rfl⟩))) | (with_reducible refine (And.intro (a := keeps _ _ _) ?_ ?_); focus (first | (simp [keeps_cons, keeps_none, objs_app, objs_app0]; done) | (simp only [keeps_cons, keeps_none, objs_app0, objs_app, and_true]; first | rfl | exact ⟨rfl, rfl⟩ | exact ⟨rfl, rfl, rfl⟩))) | (refine both_ways ?_ ?_) | (rw [wrap_i64 (by omega) (by omega)]) | (refine guardV_split (fun h => ?_) (fun h => ?_) <;> (try rw [h]) <;> (try simp at h) <;> (try (exfalso; omega))))
  exact hK s h
end Go.Aff.L10

/- Layer 10, walked: digests, answers read. -/
namespace Go.Aff.L10
open Go.Proofs Go.Aff Go.Aff.L01 Classical
set_option linter.unusedVariables false
set_option linter.unusedSimpArgs false
set_option maxRecDepth 20000
attribute [local go_sem] push_app app_app length_app cellAt_app cellAt_app0 set_app set_app0 objs_app objs_app0 List.cons_append List.nil_append List.length_cons List.length_nil List.getElem?_cons_zero List.getElem?_cons_succ List.set_cons_zero List.set_cons_succ List.length_map
attribute [-go_sem] cellAt_new
attribute [-simp] List.length_flatMap
attribute [local go_sem] Try.underlying3 Try.underlying4 Try.underlying5 Try.underlying9 Try.underlying36 Try.underlying37 Try.underlying42 Try.underlying45 Try.underlying31 Try.underlying61 subPs_0 subAt_0 subSet_0 subPs_1 subAt_1 subSet_1 subPs_2 subAt_2 subSet_2 subPs_3 subAt_3 subSet_3 subPs_4 subAt_4 subSet_4 subPs_5 subAt_5 subSet_5 sizes_sub shapes_sub fits_sub zero_sub zt_sub built_sub Try.underlying41 pendPs_0 pendAt_0 pendSet_0 pendPs_1 pendAt_1 pendSet_1 pendPs_2 pendAt_2 pendSet_2 pendPs_3 pendAt_3 pendSet_3 pendPs_4 pendAt_4 pendSet_4 pendPs_5 pendAt_5 pendSet_5 sizes_pend shapes_pend fits_pend zero_pend zt_pend built_pend Try.underlying92 repPs_0 repAt_0 repSet_0 repPs_1 repAt_1 repSet_1 repPs_2 repAt_2 repSet_2 repPs_3 repAt_3 repSet_3 repPs_4 repAt_4 repSet_4 repPs_5 repAt_5 repSet_5 repPs_6 repAt_6 repSet_6 repPs_7 repAt_7 repSet_7 repPs_8 repAt_8 repSet_8 repPs_9 repAt_9 repSet_9 sizes_rep shapes_rep fits_rep zero_rep zt_rep built_rep Try.underlying44 blobPs_0 blobAt_0 blobSet_0 blobPs_1 blobAt_1 blobSet_1 blobPs_2 blobAt_2 blobSet_2 blobPs_3 blobAt_3 blobSet_3 sizes_blob shapes_blob fits_blob zero_blob zt_blob built_blob Try.underlying39 msgPs_0 msgAt_0 msgSet_0 msgPs_1 msgAt_1 msgSet_1 msgPs_2 msgAt_2 msgSet_2 msgPs_3 msgAt_3 msgSet_3 msgPs_4 msgAt_4 msgSet_4 msgPs_5 msgAt_5 msgSet_5 msgPs_6 msgAt_6 msgSet_6 msgPs_7 msgAt_7 msgSet_7 msgPs_8 msgAt_8 msgSet_8 msgPs_9 msgAt_9 msgSet_9 sizes_msg shapes_msg fits_msg zero_msg zt_msg built_msg Try.underlying47 at_Ps_0 at_Set_0 at_Ps_1 at_Set_1 sizes_at_ shapes_at_
attribute [local go_sem] fits3 fits4 fits5 fits9 fits23 fits26 fits31 fits34 fits52 zt3 zero3 zt34 zero34 zt23 zero23 bin_sub_eql bin_pend_eql bin_pend_neq bin_blob_eql bin_dig23_eql bin_dig23_neq slice23
attribute [local go_sem ↓] blockQ_exit2
attribute [local simp] dig_ext
attribute [local go_sem] rdrPs_0 rdrAt_0 rdrSet_0 rdrPs_1 rdrAt_1 rdrSet_1 rdrPs_2 rdrAt_2 rdrSet_2 sizes_rdr shapes_rdr fits_rdr zero_rdr zt_rdr built_rdr Try.underlying71 Try.underlying69 Try.underlying75

section
variable {s : AST} {j k : Nat} {o : AObj} {v : AV} {p : List Nat}
theorem cellAt_setS (h : k < s.objs.length) : cellAt (s.set k (.cells v)) k p = v.at p := cellAt_known (by simp only [AST.set]; rw [List.getElem?_set_self h]) p
theorem cellAt_setN (h : j ≠ k) : cellAt (s.set j o) k p = cellAt s k p := by simp only [cellAt, AST.set]; rw [List.getElem?_set_ne h]
theorem objs_setS (h : k < s.objs.length) : (s.set k o).objs[k]? = some o := by simp only [AST.set]; rw [List.getElem?_set_self h]
theorem objs_setN (h : j ≠ k) : (s.set j o).objs[k]? = s.objs[k]? := by simp only [AST.set]; rw [List.getElem?_set_ne h]
theorem length_set : (s.set j o).objs.length = s.objs.length := by simp [AST.set]
theorem RF.setO {σ0 : AST} {T : List (Nat × Nat)} {r : Rdr} {F : List (Nat × AObj)} (h : RF σ0 s T j r F) (hk : σ0.objs.length ≤ k) (hj : k ≠ j) (hF : ∀ x ∈ F, x.1 ≠ k) : RF σ0 (s.set k o) T j r F := by
  refine ⟨h.x.set hk, h.t, h.jn, by rw [objs_setN hj]; exact h.o, fun x hx => ⟨(h.f x hx).1, by rw [objs_setN (hF x hx).symm]; exact (h.f x hx).2⟩, h.p, h.l⟩
theorem RF.lt {σ0 : AST} {T : List (Nat × Nat)} {r : Rdr} {F : List (Nat × AObj)} (h : RF σ0 s T j r F) : ∀ x ∈ F, x.1 ≠ s.objs.length := fun x hx => by
  have := (List.getElem?_eq_some_iff.1 (h.f x hx).2).1; omega
theorem RF.le {σ0 : AST} {T : List (Nat × Nat)} {r : Rdr} {F : List (Nat × AObj)} (h : RF σ0 s T j r F) : σ0.objs.length ≤ s.objs.length := by
  have := h.jn; have := (List.getElem?_eq_some_iff.1 h.o).1; omega
end
def digOf (t : List UInt8) : Dig × Int := if h : t.length = 32 then (⟨t, h⟩, 0) else (dig0, if t.length < 32 then 5 else 6)
theorem digest_c {t : List UInt8} {σ : AST} {K : AV → AST → Prop} (hK : K (.tuple [.dig (digOf t).1, .int .i64 (digOf t).2]) σ) : TCalls Try.prog 68 [.str t] σ K := by
  refine TCalls.drop ?_
  refine tcalls_walk Try.f68 _ [.cell 2 37, .tmp 3] Try.func68 rfl rfl rfl mixed (Nat.le_of_ble_eq_true rfl) rfl fun hlen => ?_
  repeat' (first | (simp -dsimp only [↓reduceIte, go_sem, slice23 (σ := σ)]) | (refine arr_intro fun _ => ?_) | (refine later_intro ⟨keeps_nil, ?_⟩) | (refine later_intro ⟨keeps_refl, ?_⟩) | (with_reducible refine keeps_go ?_ ?_; focus (first | (simp [keeps_cons, keeps_none, objs_app, objs_app0]; done) | (simp only [keeps_cons, keeps_none, objs_app0, objs_app, and_true]; first | rfl | exact ⟨rfl, rfl⟩ | exact ⟨rfl, rfl, rfl⟩))) | (with_reducible refine (And.intro (a := keeps _ _ _) ?_ ?_); focus (first | (simp [keeps_cons, keeps_none, objs_app, objs_app0]; done) | (simp only [keeps_cons, keeps_none, objs_app0, objs_app, and_true]; first | rfl | exact ⟨rfl, rfl⟩ | exact ⟨rfl, rfl, rfl⟩))) | (refine both_ways ?_ ?_) | (rw [wrap_i64 (by omega) (by omega)]) | (refine guardV_split (fun h => ?_) (fun h => ?_) <;> (try rw [h]) <;> (try simp at h) <;> (try (exfalso; omega))))
  · have e : digOf t = (dig0, 5) := by unfold digOf; rw [dif_neg (by omega), if_pos (by omega)]
    rw [e] at hK
    exact ⟨Ext.app _ _, rfl, by simpa [AV.strip, AV.strips] using hK⟩
  · have e : digOf t = (dig0, 6) := by unfold digOf; rw [dif_neg (by omega), if_neg (by omega)]
    rw [e] at hK
    exact ⟨Ext.app _ _, rfl, by simpa [AV.strip, AV.strips] using hK⟩
  · have h32 : t.length = 32 := by omega
    have e : digOf t = (⟨t, h32⟩, 0) := by unfold digOf; rw [dif_pos h32]
    rw [e] at hK
    refine copy_dig Try.underlying61 (by kernel_rfl) ⟨_, Try.underlying5⟩ (dg := dig0) (by simp [AST.app]) h32 ?_
    repeat' (first | (simp -dsimp only [↓reduceIte, go_sem]) | (refine arr_intro fun _ => ?_) | (refine later_intro ⟨keeps_nil, ?_⟩) | (refine later_intro ⟨keeps_refl, ?_⟩) | (with_reducible refine keeps_go ?_ ?_; focus (first | (simp [keeps_cons, keeps_none, objs_app, objs_app0]; done) | (simp only [keeps_cons, keeps_none, objs_app0, objs_app, and_true]; first | rfl | exact ⟨rfl, rfl⟩ | exact ⟨rfl, rfl, rfl⟩))) | (with_reducible refine (And.intro (a := keeps _ _ _) ?_ ?_); focus (first | (simp [keeps_cons, keeps_none, objs_app, objs_app0]; done) | (simp only [keeps_cons, keeps_none, objs_app0, objs_app, and_true]; first | rfl | exact ⟨rfl, rfl⟩ | exact ⟨rfl, rfl, rfl⟩))) | (refine both_ways ?_ ?_) | (rw [wrap_i64 (by omega) (by omega)]) | (refine guardV_split (fun h => ?_) (fun h => ?_) <;> (try rw [h]) <;> (try simp at h) <;> (try (exfalso; omega))))
    exact ⟨Ext.app _ _, rfl, by simpa [AV.strip, AV.strips] using hK⟩
noncomputable def Rdr.dig (r : Rdr) : Dig × Rdr := ((digOf r.text.1).1, if r.text.2.e = 0 ∧ (digOf r.text.1).2 ≠ 0 then { r.text.2 with e := 6 } else r.text.2)
theorem rdig_c {r : Rdr} {T : List (Nat × Nat)} {j : Nat} {F : List (Nat × AObj)} {σ0 σ : AST} {K : AV → AST → Prop} (h : RF σ0 σ T j r F) (hK : ∀ s, RF σ0 s T j r.dig.2 F → K (.dig r.dig.1) s) : TCalls Try.prog 48 [.ptr (some (j, []))] σ K := by
  refine tcalls_walk Try.f48 _ [.cell 2 37] Try.func48 rfl rfl rfl mixed (Nat.le_of_ble_eq_true rfl) rfl fun hlen => ?_
  simp -dsimp only [↓reduceIte, go_sem]
  have hle := h.le
  have hlt := h.lt
  have hR := h.push (o := .cells (.dig dig0))
  generalize hk : σ.objs.length = k at hR hle hlt
  refine rtext_c hR fun s hR => ?_
  simp -dsimp only [↓reduceIte, go_sem, hk]
  refine digest_c ?_
  have hR := hR.push (o := .cells (.dig (digOf r.text.1).1))
  repeat' (first | (simp -dsimp only [↓reduceIte, go_sem, hk]) | (refine arr_intro fun _ => ?_) | (refine later_intro ⟨keeps_nil, ?_⟩) | (refine later_intro ⟨keeps_refl, ?_⟩) | (with_reducible refine keeps_go ?_ ?_; focus (first | (simp [keeps_cons, keeps_none, objs_app, objs_app0]; done) | (simp only [keeps_cons, keeps_none, objs_app0, objs_app, and_true]; first | rfl | exact ⟨rfl, rfl⟩ | exact ⟨rfl, rfl, rfl⟩))) | (with_reducible refine (And.intro (a := keeps _ _ _) ?_ ?_); focus (first | (simp [keeps_cons, keeps_none, objs_app, objs_app0]; done) | (simp only [keeps_cons, keeps_none, objs_app0, objs_app, and_true]; first | rfl | exact ⟨rfl, rfl⟩ | exact ⟨rfl, rfl, rfl⟩))) | (refine both_ways ?_ ?_) | (rw [wrap_i64 (by omega) (by omega)]) | (refine guardV_split (fun h => ?_) (fun h => ?_) <;> (try rw [h]) <;> (try simp at h) <;> (try (exfalso; omega))))
  generalize hk2 : s.objs.length = k2 at hR
  generalize s.app [.cells (.dig (digOf r.text.1).1)] = s at hR
  have c := cellAt_known hR.o
  have ho := hR.o
  have hj := (List.getElem?_eq_some_iff.1 hR.o).1
  have hk1 := hR.f (k, .cells (.dig dig0)) (by simp)
  have hk2 := hR.f (k2, .cells (.dig (digOf r.text.1).1)) (by simp)
  dsimp only at hk1 hk2
  have hkl := (List.getElem?_eq_some_iff.1 hk1.2).1
  have c2 := cellAt_known hk2.2
  have n1 := hk1.1
  have n2 := hk2.1
  have n3 := hk2.1.symm
  have n4 := hk1.1.symm
  have m := hR.mono (G := F) (by simp +contextual)
  repeat' (first | (simp -dsimp only [↓reduceIte, go_sem, c, ho, hk1.2, hk2.2, c2, cellAt_setN, cellAt_setS, objs_setN, objs_setS, length_set, n1, n2, n3, n4, hkl]) | (refine arr_intro fun _ => ?_) | (refine later_intro ⟨keeps_nil, ?_⟩) | (refine later_intro ⟨keeps_refl, ?_⟩) | (with_reducible refine keeps_go ?_ ?_; focus (first | (simp [keeps_cons, keeps_none, objs_app, objs_app0]; done) | (simp only [keeps_cons, keeps_none, objs_app0, objs_app, and_true]; first | rfl | exact ⟨rfl, rfl⟩ | exact ⟨rfl, rfl, rfl⟩))) | (with_reducible refine (And.intro (a := keeps _ _ _) ?_ ?_); focus (first | (simp [keeps_cons, keeps_none, objs_app, objs_app0]; done) | (simp only [keeps_cons, keeps_none, objs_app0, objs_app, and_true]; first | rfl | exact ⟨rfl, rfl⟩ | exact ⟨rfl, rfl, rfl⟩))) | (refine both_ways ?_ ?_) | (rw [wrap_i64 (by omega) (by omega)]) | (refine guardV_split (fun h => ?_) (fun h => ?_) <;> (try rw [h]) <;> (try simp at h) <;> (try (exfalso; omega))))
  · have e : r.dig = ((digOf r.text.1).1, { r.text.2 with e := 6 }) := by simp [Rdr.dig, *]
    rw [e] at hK
    exact hK _ ((m.err (by decide)).setO hle n1 hlt)
  all_goals
    have e : r.dig = ((digOf r.text.1).1, r.text.2) := by simp [Rdr.dig, *]
    rw [e] at hK
    exact hK _ (m.setO hle n1 hlt)
end Go.Aff.L10

