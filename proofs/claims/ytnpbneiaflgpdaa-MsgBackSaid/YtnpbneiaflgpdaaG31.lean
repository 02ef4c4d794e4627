import Derived.Test.YtnpbneiaflgpdaaG30

set_option linter.unusedSimpArgs false
set_option linter.unusedVariables false

/- Layer 10, walked: answers read. -/
-- cuts
namespace Go.Aff.L10
open Go.Proofs Go.Aff Go.Aff.L01 Classical
set_option linter.unusedVariables false
set_option linter.unusedSimpArgs false
set_option maxRecDepth 20000
attribute [local go_sem] push_app app_app length_app cellAt_app cellAt_app0 set_app set_app0 objs_app objs_app0 List.cons_append List.nil_append List.length_cons List.length_nil List.getElem?_cons_zero List.getElem?_cons_succ List.set_cons_zero List.set_cons_succ List.length_map
attribute [-go_sem] cellAt_new
attribute [-simp] List.length_flatMap
attribute [local go_sem] Try.underlying3 Try.underlying4 Try.underlying5 Try.underlying9 Try.underlying22 Try.underlying23 Try.underlying26 Try.underlying31 Try.underlying34 Try.underlying52 subPs_0 subAt_0 subSet_0 subPs_1 subAt_1 subSet_1 subPs_2 subAt_2 subSet_2 subPs_3 subAt_3 subSet_3 subPs_4 subAt_4 subSet_4 subPs_5 subAt_5 subSet_5 sizes_sub shapes_sub fits_sub zero_sub zt_sub built_sub Try.underlying25 pendPs_0 pendAt_0 pendSet_0 pendPs_1 pendAt_1 pendSet_1 pendPs_2 pendAt_2 pendSet_2 pendPs_3 pendAt_3 pendSet_3 pendPs_4 pendAt_4 pendSet_4 pendPs_5 pendAt_5 pendSet_5 sizes_pend shapes_pend fits_pend zero_pend zt_pend built_pend Try.underlying98 repPs_0 repAt_0 repSet_0 repPs_1 repAt_1 repSet_1 repPs_2 repAt_2 repSet_2 repPs_3 repAt_3 repSet_3 repPs_4 repAt_4 repSet_4 repPs_5 repAt_5 repSet_5 repPs_6 repAt_6 repSet_6 repPs_7 repAt_7 repSet_7 repPs_8 repAt_8 repSet_8 repPs_9 repAt_9 repSet_9 sizes_rep shapes_rep fits_rep zero_rep zt_rep built_rep Try.underlying28 blobPs_0 blobAt_0 blobSet_0 blobPs_1 blobAt_1 blobSet_1 blobPs_2 blobAt_2 blobSet_2 blobPs_3 blobAt_3 blobSet_3 sizes_blob shapes_blob fits_blob zero_blob zt_blob built_blob Try.underlying30 msgPs_0 msgAt_0 msgSet_0 msgPs_1 msgAt_1 msgSet_1 msgPs_2 msgAt_2 msgSet_2 msgPs_3 msgAt_3 msgSet_3 msgPs_4 msgAt_4 msgSet_4 msgPs_5 msgAt_5 msgSet_5 msgPs_6 msgAt_6 msgSet_6 msgPs_7 msgAt_7 msgSet_7 msgPs_8 msgAt_8 msgSet_8 msgPs_9 msgAt_9 msgSet_9 sizes_msg shapes_msg fits_msg zero_msg zt_msg built_msg Try.underlying33 at_Ps_0 at_At_0 at_Set_0 at_Ps_1 at_At_1 at_Set_1 sizes_at_ shapes_at_ fits_at_ zero_at_ zt_at_ built_at_ Try.underlying77
attribute [local go_sem] fits3 fits4 fits5 fits9 fits23 fits26 fits31 fits34 fits52 zt3 zero3 zt34 zero34 zt23 zero23 bin_sub_eql bin_pend_eql bin_pend_neq bin_blob_eql bin_dig23_eql bin_dig23_neq slice23
attribute [local go_sem ↓] blockQ_exit2
attribute [local simp] dig_ext
attribute [local go_sem] rdrPs_0 rdrAt_0 rdrSet_0 rdrPs_1 rdrAt_1 rdrSet_1 rdrPs_2 rdrAt_2 rdrSet_2 sizes_rdr shapes_rdr fits_rdr zero_rdr zt_rdr built_rdr Try.underlying72 Try.underlying70 Try.underlying75 bin_bool_ne appc appn built23

noncomputable section
def Rdr.pend (r : Rdr) : Pend × Rdr :=
  (⟨r.int.1, r.int.2.int.1, r.int.2.int.2.int.1, r.int.2.int.2.int.2.int.1, r.int.2.int.2.int.2.int.2.dig.1, r.int.2.int.2.int.2.int.2.dig.2.dig.1⟩, r.int.2.int.2.int.2.int.2.dig.2.dig.2)
def Rdr.pends : Nat → Rdr → List Pend × Rdr
  | 0, r => ([], r)
  | k + 1, r => if r.e ≠ 0 then ([], r) else (r.pend.1 :: (Rdr.pends k r.pend.2).1, (Rdr.pends k r.pend.2).2)
/-- An answer's first part, its count, the reader behind it. -/
def Rdr.rep1 (r : Rdr) : Rep × Int × Rdr :=
  let a := r.int; let b := a.2.int; let c := b.2.text; let d := c.2.dig; let n := d.2.int
  ({ rep0 with num := a.1, last := b.1, view := c.1, commit := d.1 }, n.1, if n.2.e = 0 ∧ ¬ In 0 8 n.1 then { n.2 with e := 6 } else n.2)
def Rdr.rep2 (x : Rep) (r : Rdr) : Rep × Rdr :=
  let a := r.int; let b := a.2.text; let c := b.2.dig; let d := c.2.text; let e := d.2.dig
  ({ x with vnum := a.1, value := b.1, data := c.1, seen := d.1, seenTag := e.1 }, e.2)
def Rdr.rep (r : Rdr) : Rep × Rdr :=
  let x := r.rep1; let l := Rdr.pends x.2.1.toNat x.2.2; Rdr.rep2 { x.1 with pending := l.1 } l.2
end
theorem pends_err {k : Nat} {r : Rdr} (h : r.e ≠ 0) : Rdr.pends k r = ([], r) := by cases k <;> simp [Rdr.pends, h]
theorem E26 : ElemT Try.prog 26 98 68 96 := ⟨rfl, by kernel_rfl, by kernel_rfl, ⟨_, of_eq_true zt_pend⟩, by decide⟩
theorem size_pends {l : List Pend} : ∀ v ∈ l.map pendV, v.size = 68 := by
  intro v hv; obtain ⟨x, _, rfl⟩ := List.mem_map.1 hv; simp only [AV.size, sizes_pend]
theorem canApp_toks {s s' : AST} {tk : Tk} {n e : Nat} (h : canApp s tk n e) (ht : s'.toks = s.toks) : canApp s' tk n e := by
  cases tk <;> simp_all [canApp]
theorem append_pend {acc : List Pend} {p : Pend} {tk tk2 : Tk} {σ : AST} {K : AV → AST → Prop} (hca : canApp σ tk acc.length 68) (hl : acc.length ≤ 1000) (hK : K (.slice (growT σ tk) ((acc ++ [p]).map pendV)) (growS σ tk (acc.length + 1) 68)) :
    appendW Try.prog ⟨[26, 26]⟩ (.slice tk (acc.map pendV)) (.slice tk2 [pendV p]) σ K := by
  refine append_slice E26 rfl (by rw [List.length_map]; exact hca) (size_pends (l := [p])) size_pends (by simp; omega) (by simp [maxL]; omega) ?_
  simpa using hK
theorem RF.growS {σ0 s : AST} {T : List (Nat × Nat)} {j : Nat} {r : Rdr} {F : List (Nat × AObj)} {tk : Tk} {n e : Nat} (h : RF σ0 s T j r F) (ht : tkNew σ0 tk) : RF σ0 (Go.Aff.growS s tk n e) (Go.Aff.growS s tk n e).toks j r F :=
  ⟨h.x.grow ht, rfl, h.jn, by rw [growS_objs]; exact h.o, fun x hx => ⟨(h.f x hx).1, by rw [growS_objs]; exact (h.f x hx).2⟩, h.p, h.l⟩

theorem rans_c {r : Rdr} {T : List (Nat × Nat)} {j : Nat} {F : List (Nat × AObj)} {σ0 σ : AST} {K : AV → AST → Prop} (h : RF σ0 σ T j r F) (hK : ∀ s T' t, RF σ0 s T' j r.rep.2 F → K (repV t r.rep.1) s) : TCalls Try.prog 69 [.ptr (some (j, []))] σ K := by
  refine tcalls_walk Try.f69 _ [.cell 2 28] Try.func69 rfl rfl rfl mixed (Nat.le_of_ble_eq_true rfl) rfl fun hlen => ?_
  simp -dsimp only [↓reduceIte, go_sem]
  have hle := h.le
  have hlt := h.lt
  have h := h.push (o := .cells (repV .full rep0))
  generalize hk : σ.objs.length = k at h hle hlt
  refine int_c h fun s h => ?_
  simp -dsimp only [↓reduceIte, go_sem]
  refine int_c h fun s h => ?_
  simp -dsimp only [↓reduceIte, go_sem]
  refine rtext_c h fun s h => ?_
  simp -dsimp only [↓reduceIte, go_sem]
  refine rdig_c h fun s h => ?_
  repeat' (first | (simp -dsimp only [↓reduceIte, go_sem, hk]) | (refine arr_intro fun _ => ?_) | (refine later_intro ⟨keeps_nil, ?_⟩) | (refine later_intro ⟨keeps_refl, ?_⟩) | (with_reducible refine keeps_go ?_ ?_; focus (simp [keeps_cons, keeps_none, objs_app, objs_app0]; done)) | (refine both_ways ?_ ?_) | (rw [wrap_i64 (by omega) (by omega)]) | (refine guardV_split (fun h => ?_) (fun h => ?_) <;> (try rw [h]) <;> (try simp at h) <;> (try (exfalso; omega))))
  have hle2 := h.le
  have hlt2 := h.lt
  have h := h.push (o := .cells (repV .full ⟨r.int.1, r.int.2.int.1, r.int.2.int.2.text.1, r.int.2.int.2.text.2.dig.1, rep0.pending, rep0.vnum, rep0.value, rep0.data, rep0.seen, rep0.seenTag⟩))
  have hX : r.rep1.1 = ⟨r.int.1, r.int.2.int.1, r.int.2.int.2.text.1, r.int.2.int.2.text.2.dig.1, rep0.pending, rep0.vnum, rep0.value, rep0.data, rep0.seen, rep0.seenTag⟩ := rfl
  rw [← hX] at h
  rw [← hX]
  generalize hk2 : s.objs.length = k2 at h hle2 hlt2
  refine int_c h fun s h => ?_
  have e1 : r.rep1.2.1 = r.int.2.int.2.text.2.dig.2.int.1 := rfl
  have e2 : r.rep1.2.2 = if r.int.2.int.2.text.2.dig.2.int.2.e = 0 ∧ ¬ In 0 8 r.int.2.int.2.text.2.dig.2.int.1 then { r.int.2.int.2.text.2.dig.2.int.2 with e := 6 } else r.int.2.int.2.text.2.dig.2.int.2 := rfl
  rw [← e1] at e2 ⊢
  have hre : r.rep = Rdr.rep2 { r.rep1.1 with pending := (Rdr.pends r.rep1.2.1.toNat r.rep1.2.2).1 } (Rdr.pends r.rep1.2.1.toNat r.rep1.2.2).2 := rfl
  have hX2 : r.rep1.1.pending = [] := rfl
  rw [hre] at hK
  generalize r.rep1.1 = X at *
  generalize r.rep1.2.1 = n at *
  generalize r.int.2.int.2.text.2.dig.2.int.2 = r2 at *
  clear hX e1 hre
  have hR := h
  clear h
  have c := cellAt_known hR.o
  have ho := hR.o
  have hj := (List.getElem?_eq_some_iff.1 hR.o).1
  repeat' (first | (simp -dsimp only [↓reduceIte, go_sem, hk2, c, ho]) | (refine arr_intro fun _ => ?_) | (refine later_intro ⟨keeps_nil, ?_⟩) | (refine later_intro ⟨keeps_refl, ?_⟩) | (with_reducible refine keeps_go ?_ ?_; focus (simp [keeps_cons, keeps_none, objs_app, objs_app0]; done)) | (refine both_ways ?_ ?_) | (rw [wrap_i64 (by omega) (by omega)]) | (refine guardV_split (fun h => ?_) (fun h => ?_) <;> (try rw [h]) <;> (try simp at h) <;> (try (exfalso; omega))) | (refine within_c ?_))
  all_goals
    obtain ⟨r3, h3, h⟩ : ∃ r3, r3 = r.rep1.2.2 ∧ RF σ0 _ T j r3 ((k2, .cells (repV .full X)) :: (k, .cells (repV .full rep0)) :: F) := by
      refine ⟨_, e2.symm, ?_⟩
      first
        | (rw [if_pos ⟨‹_›, ‹_›⟩]; exact hR.err (by decide))
        | (rw [if_neg (fun h => by simp_all)]; exact hR)
  all_goals
    rw [← h3] at e2 hK
    have hn : r3.e = 0 → 0 ≤ n ∧ n ≤ 8 := fun h0 => by
      by_cases hc : r2.e = 0 ∧ ¬ In 0 8 n
      · rw [if_pos hc] at e2; rw [e2] at h0; simp at h0
      · rw [if_neg hc] at e2; rw [e2] at h0; exact Classical.byContradiction fun hin => hc ⟨h0, hin⟩
    clear e2 h3 c ho hj
    have hi0 : (k2, AObj.cells (repV .full X)) = (k2, AObj.cells (repV .full { X with pending := [] })) := by rw [← hX2]
    rw [hi0] at h
    generalize hP : Rdr.pends n.toNat r3 = P at hK
    refine awp_rounds (fun (x : Nat × List Pend × Rdr) τ s => ∃ tk T', RF σ0 s T' j x.2.2 ((k2, .cells (repV tk { X with pending := x.2.1 })) :: (k, .cells (repV .full rep0)) :: F) ∧ tkNew σ0 tk ∧ canApp s tk x.2.1.length 68 ∧ (x.2.2.e = 0 → 0 ≤ n ∧ n ≤ 8) ∧ x.2.1.length ≤ x.1 ∧ x.1 ≤ n.toNat ∧
      x.2.1 ++ (Rdr.pends (n.toNat - x.1) x.2.2).1 = P.1 ∧ (Rdr.pends (n.toNat - x.1) x.2.2).2 = P.2 ∧ τ 0 = .ptr (some (j, [])) ∧ τ 2 = .ptr (some (k, [])) ∧ τ 3 = .ptr (some (k2, [])) ∧ τ 4 = .int .i64 n ∧ τ 5 = .int .i64 x.1) (fun x => n.toNat - x.1) (0, [], r3) ?_ ?_
    · refine ⟨.full, T, h, .inl rfl, trivial, hn, by simp, by simp, ?_, ?_, ?_, ?_, ?_, ?_, ?_⟩ <;> (try simp only [go_sem]) <;> (try rfl) <;> simp [hP]
    · clear h hR
      rintro ⟨i, acc, r'⟩ τ s ⟨tk, T', hR, htk, hca, hn, hal, hi, hP1, hP2, t0, t2, t3, t4, t5⟩
      dsimp only at hR hca hn hal hi hP1 hP2 t5 ⊢
      have c := cellAt_known hR.o
      have h2 := hR.f (k2, _) (List.mem_cons_self ..)
      have c2 := cellAt_known h2.2
      have hT := hR.t
      by_cases hgo : (i : Int) < n ∧ r'.e = 0
      · obtain ⟨hlt0, he⟩ := hgo
        have hn8 := hn he
        have hn2 : ∀ {q : Prop}, q → 0 ≤ n ∧ n ≤ 8 := fun _ => hn8
        repeat' (first | (simp -dsimp only [↓reduceIte, go_sem, t0, t2, t3, t4, t5, c, c2, he]) | (refine arr_intro fun _ => ?_) | (refine later_intro ⟨keeps_nil, ?_⟩) | (refine later_intro ⟨keeps_refl, ?_⟩) | (with_reducible refine keeps_go ?_ ?_; focus (simp [keeps_cons, keeps_none, objs_app, objs_app0]; done)) | (refine both_ways ?_ ?_) | (rw [wrap_i64 (by omega) (by omega)]) | (refine guardV_split (fun h => ?_) (fun h => ?_) <;> (try rw [h]) <;> (try simp at h) <;> (try (exfalso; omega))) | (with_reducible refine awp_drawU (id := 8) (.op 0 0 (.op 1 0 (.op 2 2 (.op 4 0 (.op 6 0 (.op 8 0 (.op 10 0 (.op 12 0 (.op 3 1 (.op 5 1 (.op 7 1 (.op 9 1 (.op 11 1 (.op 13 1 (.cut (.op 14 2 (.op 15 2 (.op 16 1 (.op 17 2 (.op 18 1 .nil)))))))))))))))))))) (by kernel_rfl) ?_))
        refine int_c hR fun s hR => ?_
        have q0 := (hR.f (k2, _) (List.mem_cons_self ..)).2
        repeat' (first | (simp -dsimp only [↓reduceIte, go_sem, t0, t2, t3, t4, t5]) | (refine arr_intro fun _ => ?_) | (refine later_intro ⟨keeps_nil, ?_⟩) | (refine later_intro ⟨keeps_refl, ?_⟩) | (with_reducible refine keeps_go ?_ ?_; focus (simp [keeps_cons, keeps_none, objs_app, objs_app0]; done)) | (refine both_ways ?_ ?_) | (rw [wrap_i64 (by omega) (by omega)]) | (refine guardV_split (fun h => ?_) (fun h => ?_) <;> (try rw [h]) <;> (try simp at h) <;> (try (exfalso; omega))) | (with_reducible refine keeps_go ?_ ?_; focus (simp [keeps_cons, keeps_none, h2.2, q0]; done)))
        refine int_c hR fun s hR => ?_
        have q1 := (hR.f (k2, _) (List.mem_cons_self ..)).2
        repeat' (first | (simp -dsimp only [↓reduceIte, go_sem, t0, t2, t3, t4, t5]) | (refine arr_intro fun _ => ?_) | (refine later_intro ⟨keeps_nil, ?_⟩) | (refine later_intro ⟨keeps_refl, ?_⟩) | (with_reducible refine keeps_go ?_ ?_; focus (simp [keeps_cons, keeps_none, objs_app, objs_app0]; done)) | (refine both_ways ?_ ?_) | (rw [wrap_i64 (by omega) (by omega)]) | (refine guardV_split (fun h => ?_) (fun h => ?_) <;> (try rw [h]) <;> (try simp at h) <;> (try (exfalso; omega))) | (with_reducible refine keeps_go ?_ ?_; focus (simp [keeps_cons, keeps_none, h2.2, q1, q0]; done)))
        refine int_c hR fun s hR => ?_
        have q2 := (hR.f (k2, _) (List.mem_cons_self ..)).2
        repeat' (first | (simp -dsimp only [↓reduceIte, go_sem, t0, t2, t3, t4, t5]) | (refine arr_intro fun _ => ?_) | (refine later_intro ⟨keeps_nil, ?_⟩) | (refine later_intro ⟨keeps_refl, ?_⟩) | (with_reducible refine keeps_go ?_ ?_; focus (simp [keeps_cons, keeps_none, objs_app, objs_app0]; done)) | (refine both_ways ?_ ?_) | (rw [wrap_i64 (by omega) (by omega)]) | (refine guardV_split (fun h => ?_) (fun h => ?_) <;> (try rw [h]) <;> (try simp at h) <;> (try (exfalso; omega))) | (with_reducible refine keeps_go ?_ ?_; focus (simp [keeps_cons, keeps_none, h2.2, q2, q0, q1]; done)))
        refine int_c hR fun s hR => ?_
        have q3 := (hR.f (k2, _) (List.mem_cons_self ..)).2
        repeat' (first | (simp -dsimp only [↓reduceIte, go_sem, t0, t2, t3, t4, t5]) | (refine arr_intro fun _ => ?_) | (refine later_intro ⟨keeps_nil, ?_⟩) | (refine later_intro ⟨keeps_refl, ?_⟩) | (with_reducible refine keeps_go ?_ ?_; focus (simp [keeps_cons, keeps_none, objs_app, objs_app0]; done)) | (refine both_ways ?_ ?_) | (rw [wrap_i64 (by omega) (by omega)]) | (refine guardV_split (fun h => ?_) (fun h => ?_) <;> (try rw [h]) <;> (try simp at h) <;> (try (exfalso; omega))) | (with_reducible refine keeps_go ?_ ?_; focus (simp [keeps_cons, keeps_none, h2.2, q3, q0, q1, q2]; done)))
        refine rdig_c hR fun s hR => ?_
        have q4 := (hR.f (k2, _) (List.mem_cons_self ..)).2
        repeat' (first | (simp -dsimp only [↓reduceIte, go_sem, t0, t2, t3, t4, t5]) | (refine arr_intro fun _ => ?_) | (refine later_intro ⟨keeps_nil, ?_⟩) | (refine later_intro ⟨keeps_refl, ?_⟩) | (with_reducible refine keeps_go ?_ ?_; focus (simp [keeps_cons, keeps_none, objs_app, objs_app0]; done)) | (refine both_ways ?_ ?_) | (rw [wrap_i64 (by omega) (by omega)]) | (refine guardV_split (fun h => ?_) (fun h => ?_) <;> (try rw [h]) <;> (try simp at h) <;> (try (exfalso; omega))) | (with_reducible refine keeps_go ?_ ?_; focus (simp [keeps_cons, keeps_none, h2.2, q4, q0, q1, q2, q3]; done)))
        refine rdig_c hR fun s hR => ?_
        have q5 := (hR.f (k2, _) (List.mem_cons_self ..)).2
        repeat' (first | (simp -dsimp only [↓reduceIte, go_sem, t0, t2, t3, t4, t5]) | (refine arr_intro fun _ => ?_) | (refine later_intro ⟨keeps_nil, ?_⟩) | (refine later_intro ⟨keeps_refl, ?_⟩) | (with_reducible refine keeps_go ?_ ?_; focus (simp [keeps_cons, keeps_none, objs_app, objs_app0]; done)) | (refine both_ways ?_ ?_) | (rw [wrap_i64 (by omega) (by omega)]) | (refine guardV_split (fun h => ?_) (fun h => ?_) <;> (try rw [h]) <;> (try simp at h) <;> (try (exfalso; omega))) | (with_reducible refine keeps_go ?_ ?_; focus (simp [keeps_cons, keeps_none, h2.2, q5, q0, q1, q2, q3, q4]; done)))
        have hca := canApp_toks (s' := s) hca (by rw [hR.t, hT])
        have hr : (⟨r'.int.1, r'.int.2.int.1, r'.int.2.int.2.int.1, r'.int.2.int.2.int.2.int.1, r'.int.2.int.2.int.2.int.2.dig.1, r'.int.2.int.2.int.2.int.2.dig.2.dig.1⟩ : Pend) = r'.pend.1 := rfl
        have hr2 : r'.int.2.int.2.int.2.int.2.dig.2.dig.2 = r'.pend.2 := rfl
        rw [hr]
        rw [hr2] at hR
        have hpd : Rdr.pends (n.toNat - i) r' = (r'.pend.1 :: (Rdr.pends (n.toNat - (i + 1)) r'.pend.2).1, (Rdr.pends (n.toNat - (i + 1)) r'.pend.2).2) := by
          rw [show n.toNat - i = (n.toNat - (i + 1)) + 1 by omega, Rdr.pends, if_neg (by simp [he])]
        rw [hpd] at hP1 hP2
        generalize r'.pend.1 = p at *
        generalize r'.pend.2 = r4 at *
        refine build_slice E26 rfl (by decide) (by intro v hv; simp at hv; subst hv; simp [go_sem]) ?_
        have hgl : ∀ m, k2 < (growS s tk m 68).objs.length := fun m => by rw [growS_objs]; exact (List.getElem?_eq_some_iff.1 q5).1
        have hgo : ∀ m, (growS s tk m 68).objs[k2]? = some (.cells (repV tk { X with pending := acc })) := fun m => by rw [growS_objs]; exact q5
        have hgc := fun m => cellAt_known (hgo m)
        repeat' (first | (simp -dsimp only [↓reduceIte, go_sem, t0, t2, t3, t4, t5, hgo, hgc, cellAt_known q5, q5]) | (refine arr_intro fun _ => ?_) | (refine later_intro ⟨keeps_nil, ?_⟩) | (refine later_intro ⟨keeps_refl, ?_⟩) | (with_reducible refine keeps_go ?_ ?_; focus (simp [keeps_cons, keeps_none, objs_app, objs_app0]; done)) | (refine both_ways ?_ ?_) | (rw [wrap_i64 (by omega) (by omega)]) | (refine guardV_split (fun h => ?_) (fun h => ?_) <;> (try rw [h]) <;> (try simp at h) <;> (try (exfalso; omega))) | (refine append_pend hca (by omega) ?_) | (with_reducible refine keeps_go ?_ ?_; focus (simp [keeps_cons, keeps_none, growS_objs]; done)))
        refine later_intro ⟨(i + 1, acc ++ [p], r4), by dsimp only; omega, growT s tk, _, (hR.growS htk).upd hle2 hlt2, htk.grow hR.x, ?_, hn2, ?_, ?_, ?_, ?_, ?_, ?_, ?_, ?_, ?_⟩ <;> (try simp only [go_sem, t0, t2, t3, t4, t5])
        · rw [canApp_set]; simp only [List.length_append, List.length_cons, List.length_nil]; exact canApp_grow hca
        · simp; omega
        · omega
        · rw [← hP1]; simp
        · exact hP2
        · rfl
      · have hz : Rdr.pends (n.toNat - i) r' = ([], r') := by
          by_cases he : r'.e = 0
          · rw [show n.toNat - i = 0 by omega]; rfl
          · exact pends_err he
        rw [hz] at hP1 hP2
        dsimp only at hP1 hP2
        rw [List.append_nil] at hP1
        subst hP1 hP2
        repeat' (first | (simp -dsimp only [↓reduceIte, go_sem, t0, t2, t3, t4, t5, c]) | (refine arr_intro fun _ => ?_) | (refine later_intro ⟨keeps_nil, ?_⟩) | (refine later_intro ⟨keeps_refl, ?_⟩) | (with_reducible refine keeps_go ?_ ?_; focus (simp [keeps_cons, keeps_none, objs_app, objs_app0]; done)) | (refine both_ways ?_ ?_) | (rw [wrap_i64 (by omega) (by omega)]) | (refine guardV_split (fun h => ?_) (fun h => ?_) <;> (try rw [h]) <;> (try simp at h) <;> (try (exfalso; omega))))
        all_goals
          refine int_c hR fun s hR => ?_
          simp -dsimp only [↓reduceIte, go_sem, t0, t2, t3]
          refine rtext_c hR fun s hR => ?_
          simp -dsimp only [↓reduceIte, go_sem, t0, t2, t3]
          refine rdig_c hR fun s hR => ?_
          have h2 := (hR.f (k2, _) (List.mem_cons_self ..)).2
          have c2 := cellAt_known h2
          have hkl2 := (List.getElem?_eq_some_iff.1 h2).1
          repeat' (first | (simp -dsimp only [↓reduceIte, go_sem, t0, t2, t3, t4, t5, c2, h2, set_set, cellAt_setS, objs_setS, hkl2]) | (refine arr_intro fun _ => ?_) | (refine later_intro ⟨keeps_nil, ?_⟩) | (refine later_intro ⟨keeps_refl, ?_⟩) | (with_reducible refine keeps_go ?_ ?_; focus (simp [keeps_cons, keeps_none, objs_app, objs_app0]; done)) | (refine both_ways ?_ ?_) | (rw [wrap_i64 (by omega) (by omega)]) | (refine guardV_split (fun h => ?_) (fun h => ?_) <;> (try rw [h]) <;> (try simp at h) <;> (try (exfalso; omega))))
        all_goals
          have hR := hR.upd (o' := .cells (repV tk ⟨X.num, X.last, X.view, X.commit, P.1, P.2.int.1, P.2.int.2.text.1, P.2.int.2.text.2.dig.1, X.seen, X.seenTag⟩)) hle2 hlt2
          refine rtext_c hR fun s hR => ?_
          simp -dsimp only [↓reduceIte, go_sem, t0, t2, t3]
          refine rdig_c hR fun s hR => ?_
          have h2 := hR.f (k2, _) (List.mem_cons_self ..)
          have h1 := hR.f (k, .cells (repV .full rep0)) (by simp)
          dsimp only at h1 h2
          have c2 := cellAt_known h2.2
          have hkl2 := (List.getElem?_eq_some_iff.1 h2.2).1
          have hkl := (List.getElem?_eq_some_iff.1 h1.2).1
          have hkk : k2 ≠ k := fun e => hlt2 (k, .cells (repV .full rep0)) (by simp) e.symm
          repeat' (first | (simp -dsimp only [↓reduceIte, go_sem, t0, t2, t3, t4, t5, c2, h2.2, h1.2, set_set, cellAt_setS, objs_setS, objs_setN, length_set, hkl2, hkl, hkk]) | (refine arr_intro fun _ => ?_) | (refine later_intro ⟨keeps_nil, ?_⟩) | (refine later_intro ⟨keeps_refl, ?_⟩) | (with_reducible refine keeps_go ?_ ?_; focus (simp [keeps_cons, keeps_none, objs_app, objs_app0]; done)) | (refine both_ways ?_ ?_) | (rw [wrap_i64 (by omega) (by omega)]) | (refine guardV_split (fun h => ?_) (fun h => ?_) <;> (try rw [h]) <;> (try simp at h) <;> (try (exfalso; omega))))
          have hR := hR.upd (o' := .cells (repV tk ⟨X.num, X.last, X.view, X.commit, P.1, P.2.int.1, P.2.int.2.text.1, P.2.int.2.text.2.dig.1, P.2.int.2.text.2.dig.2.text.1, P.2.int.2.text.2.dig.2.text.2.dig.1⟩)) hle2 hlt2
          exact hK _ _ tk ((hR.mono (G := F) (by simp +contextual)).setO hle h1.1 hlt)
end Go.Aff.L10

/- Layer 10, walked: the fields of a message read. -/
-- cuts
namespace Go.Aff.L10
open Go.Proofs Go.Aff Go.Aff.L01 Classical
set_option linter.unusedVariables false
set_option linter.unusedSimpArgs false
set_option maxRecDepth 20000
attribute [local go_sem] push_app app_app length_app cellAt_app cellAt_app0 set_app set_app0 objs_app objs_app0 List.cons_append List.nil_append List.length_cons List.length_nil List.getElem?_cons_zero List.getElem?_cons_succ List.set_cons_zero List.set_cons_succ List.length_map
attribute [-go_sem] cellAt_new
attribute [-simp] List.length_flatMap
attribute [local go_sem] Try.underlying3 Try.underlying4 Try.underlying5 Try.underlying9 Try.underlying22 Try.underlying23 Try.underlying26 Try.underlying31 Try.underlying34 Try.underlying52 subPs_0 subAt_0 subSet_0 subPs_1 subAt_1 subSet_1 subPs_2 subAt_2 subSet_2 subPs_3 subAt_3 subSet_3 subPs_4 subAt_4 subSet_4 subPs_5 subAt_5 subSet_5 sizes_sub shapes_sub fits_sub zero_sub zt_sub built_sub Try.underlying25 pendPs_0 pendAt_0 pendSet_0 pendPs_1 pendAt_1 pendSet_1 pendPs_2 pendAt_2 pendSet_2 pendPs_3 pendAt_3 pendSet_3 pendPs_4 pendAt_4 pendSet_4 pendPs_5 pendAt_5 pendSet_5 sizes_pend shapes_pend fits_pend zero_pend zt_pend built_pend Try.underlying98 repPs_0 repAt_0 repSet_0 repPs_1 repAt_1 repSet_1 repPs_2 repAt_2 repSet_2 repPs_3 repAt_3 repSet_3 repPs_4 repAt_4 repSet_4 repPs_5 repAt_5 repSet_5 repPs_6 repAt_6 repSet_6 repPs_7 repAt_7 repSet_7 repPs_8 repAt_8 repSet_8 repPs_9 repAt_9 repSet_9 sizes_rep shapes_rep fits_rep zero_rep zt_rep built_rep Try.underlying28 blobPs_0 blobAt_0 blobSet_0 blobPs_1 blobAt_1 blobSet_1 blobPs_2 blobAt_2 blobSet_2 blobPs_3 blobAt_3 blobSet_3 sizes_blob shapes_blob fits_blob zero_blob zt_blob built_blob Try.underlying30 msgPs_0 msgAt_0 msgSet_0 msgPs_1 msgAt_1 msgSet_1 msgPs_2 msgAt_2 msgSet_2 msgPs_3 msgAt_3 msgSet_3 msgPs_4 msgAt_4 msgSet_4 msgPs_5 msgAt_5 msgSet_5 msgPs_6 msgAt_6 msgSet_6 msgPs_7 msgAt_7 msgSet_7 msgPs_8 msgAt_8 msgSet_8 msgPs_9 msgAt_9 msgSet_9 sizes_msg shapes_msg fits_msg zero_msg zt_msg built_msg Try.underlying33 at_Ps_0 at_At_0 at_Set_0 at_Ps_1 at_At_1 at_Set_1 sizes_at_ shapes_at_ fits_at_ zero_at_ zt_at_ built_at_ Try.underlying77
attribute [local go_sem] fits3 fits4 fits5 fits9 fits23 fits26 fits31 fits34 fits52 zt3 zero3 zt34 zero34 zt23 zero23 bin_sub_eql bin_pend_eql bin_pend_neq bin_blob_eql bin_dig23_eql bin_dig23_neq slice23
attribute [local go_sem ↓] blockQ_exit2
attribute [local simp] dig_ext
attribute [local go_sem] rdrPs_0 rdrAt_0 rdrSet_0 rdrPs_1 rdrAt_1 rdrSet_1 rdrPs_2 rdrAt_2 rdrSet_2 sizes_rdr shapes_rdr fits_rdr zero_rdr zt_rdr built_rdr Try.underlying72 Try.underlying70 Try.underlying75 bin_bool_ne appc appn built23

theorem msgSet_9s {m : Msg} {t u v : Tk} {l : List Int} : (msgPs t u m).set 9 (.slice v (l.map (AV.int .i64))) = msgPs t v { m with nums := l } := rfl
theorem slV_eq {l : List Int} : slV (AV.int .i64) l = .slice (L01.tk' l) (l.map (AV.int .i64)) := rfl
attribute [local go_sem] msgSet_9s slV_eq
noncomputable def Rdr.fields (r : Rdr) (m : Msg) : Msg × Rdr :=
  if m.kind = 1 then ((⟨m.kind, m.client, ⟨r.int.1, r.int.2.int.1, r.int.2.int.2.int.1, r.int.2.int.2.int.2.text.1, r.int.2.int.2.int.2.text.2.dig.1, r.int.2.int.2.int.2.text.2.dig.2.dig.1⟩, m.rep, m.view, m.by_, m.tag, m.own, m.blob, m.nums⟩ : Msg), r.int.2.int.2.int.2.text.2.dig.2.dig.2)
  else if m.kind = 2 then ((⟨m.kind, m.client, m.sub, r.rep.1, m.view, m.by_, m.tag, m.own, m.blob, m.nums⟩ : Msg), r.rep.2)
  else if m.kind = 3 then ((⟨m.kind, m.client, m.sub, m.rep, r.text.1, m.by_, r.text.2.dig.1, m.own, m.blob, m.nums⟩ : Msg), r.text.2.dig.2)
  else if m.kind = 4 ∨ m.kind = 6 then ((⟨m.kind, m.client, m.sub, m.rep, m.view, m.by_, m.tag, m.own, ⟨r.int.1, r.int.2.int.1, r.int.2.int.2.text.1, r.int.2.int.2.text.2.dig.1⟩, m.nums⟩ : Msg), r.int.2.int.2.text.2.dig.2)
  else if m.kind = 5 ∨ m.kind = 7 ∨ m.kind = 8 then ((⟨m.kind, m.client, m.sub, m.rep, m.view, m.by_, m.tag, m.own, m.blob, r.ints.1⟩ : Msg), r.ints.2)
  else if m.kind = 10 then ((⟨m.kind, m.client, m.sub, m.rep, r.int.2.text.1, r.int.1, r.int.2.text.2.dig.1, r.int.2.text.2.dig.2.dig.1, m.blob, m.nums⟩ : Msg), r.int.2.text.2.dig.2.dig.2)
  else if m.kind = 11 then ((⟨m.kind, m.client, m.sub, m.rep, m.view, m.by_, m.tag, r.dig.1, m.blob, m.nums⟩ : Msg), r.dig.2)
  else (m, r)
theorem kinds_all (n : Int) : n = 1 ∨ n = 2 ∨ n = 3 ∨ n = 4 ∨ n = 6 ∨ n = 5 ∨ n = 7 ∨ n = 8 ∨ n = 10 ∨ n = 11 ∨ (¬ n = 1 ∧ ¬ n = 2 ∧ ¬ n = 3 ∧ ¬ n = 4 ∧ ¬ n = 6 ∧ ¬ n = 5 ∧ ¬ n = 7 ∧ ¬ n = 8 ∧ ¬ n = 10 ∧ ¬ n = 11) := by omega
theorem rfields_c {r : Rdr} {m : Msg} {t u : Tk} {T : List (Nat × Nat)} {j k : Nat} {F : List (Nat × AObj)} {σ0 σ : AST} {K : AV → AST → Prop} (hR : RF σ0 σ T j r ((k, .cells (msgV t u m)) :: F)) (hk : σ0.objs.length ≤ k) (hF : ∀ x ∈ F, x.1 ≠ k)
    (hK : ∀ s T' t' u', RF σ0 s T' j (r.fields m).2 ((k, .cells (msgV t' u' (r.fields m).1)) :: F) → K (.tuple []) s) : TCalls Try.prog 44 [.ptr (some (j, [])), .ptr (some (k, []))] σ K := by
  refine tcalls_walk Try.f44 _ [] Try.func44 rfl rfl rfl mixed (Nat.le_of_ble_eq_true rfl) rfl fun hlen => ?_
  have h0 := hR.f (k, _) (List.mem_cons_self ..)
  have c0 := cellAt_known h0.2
  simp -dsimp only [↓reduceIte, go_sem, c0]
  rcases kinds_all m.kind with hq | hq | hq | hq | hq | hq | hq | hq | hq | hq | hq
  · have e : r.fields m = ((⟨m.kind, m.client, ⟨r.int.1, r.int.2.int.1, r.int.2.int.2.int.1, r.int.2.int.2.int.2.text.1, r.int.2.int.2.int.2.text.2.dig.1, r.int.2.int.2.int.2.text.2.dig.2.dig.1⟩, m.rep, m.view, m.by_, m.tag, m.own, m.blob, m.nums⟩ : Msg), r.int.2.int.2.int.2.text.2.dig.2.dig.2) := by simp [Rdr.fields, hq]
    rw [e, hq] at hK
    simp -dsimp only [↓reduceIte, go_sem, hq]
    refine int_c hR fun s hR => ?_
    simp -dsimp only [↓reduceIte, go_sem, hq]
    refine int_c hR fun s hR => ?_
    simp -dsimp only [↓reduceIte, go_sem, hq]
    refine int_c hR fun s hR => ?_
    simp -dsimp only [↓reduceIte, go_sem, hq]
    refine rtext_c hR fun s hR => ?_
    simp -dsimp only [↓reduceIte, go_sem, hq]
    refine rdig_c hR fun s hR => ?_
    simp -dsimp only [↓reduceIte, go_sem, hq]
    refine rdig_c hR fun s hR => ?_
    have h2 := hR.f (k, _) (List.mem_cons_self ..)
    have c2 := cellAt_known h2.2
    have hkl := (List.getElem?_eq_some_iff.1 h2.2).1
    repeat' (first | (simp -dsimp only [↓reduceIte, go_sem, hq, c2, h2.2, set_set, cellAt_setS, objs_setS, hkl]) | (refine arr_intro fun _ => ?_) | (refine later_intro ⟨keeps_nil, ?_⟩) | (refine later_intro ⟨keeps_refl, ?_⟩) | (with_reducible refine keeps_go ?_ ?_; focus (simp [keeps_cons, keeps_none, objs_app, objs_app0]; done)) | (refine both_ways ?_ ?_) | (rw [wrap_i64 (by omega) (by omega)]) | (refine guardV_split (fun h => ?_) (fun h => ?_) <;> (try rw [h]) <;> (try simp at h) <;> (try (exfalso; omega))))
    exact hK _ T t u (hR.upd hk hF)
  · have e : r.fields m = ((⟨m.kind, m.client, m.sub, r.rep.1, m.view, m.by_, m.tag, m.own, m.blob, m.nums⟩ : Msg), r.rep.2) := by simp [Rdr.fields, hq]
    rw [e, hq] at hK
    simp -dsimp only [↓reduceIte, go_sem, hq]
    refine rans_c hR fun s T' t' hR => ?_
    have h2 := hR.f (k, _) (List.mem_cons_self ..)
    have c2 := cellAt_known h2.2
    have hkl := (List.getElem?_eq_some_iff.1 h2.2).1
    repeat' (first | (simp -dsimp only [↓reduceIte, go_sem, hq, c2, h2.2, set_set, cellAt_setS, objs_setS, hkl]) | (refine arr_intro fun _ => ?_) | (refine later_intro ⟨keeps_nil, ?_⟩) | (refine later_intro ⟨keeps_refl, ?_⟩) | (with_reducible refine keeps_go ?_ ?_; focus (simp [keeps_cons, keeps_none, objs_app, objs_app0]; done)) | (refine both_ways ?_ ?_) | (rw [wrap_i64 (by omega) (by omega)]) | (refine guardV_split (fun h => ?_) (fun h => ?_) <;> (try rw [h]) <;> (try simp at h) <;> (try (exfalso; omega))))
    exact hK _ T' t' u (hR.upd hk hF)
  · have e : r.fields m = ((⟨m.kind, m.client, m.sub, m.rep, r.text.1, m.by_, r.text.2.dig.1, m.own, m.blob, m.nums⟩ : Msg), r.text.2.dig.2) := by simp [Rdr.fields, hq]
    rw [e, hq] at hK
    simp -dsimp only [↓reduceIte, go_sem, hq]
    refine rtext_c hR fun s hR => ?_
    simp -dsimp only [↓reduceIte, go_sem, hq]
    refine rdig_c hR fun s hR => ?_
    have h2 := hR.f (k, _) (List.mem_cons_self ..)
    have c2 := cellAt_known h2.2
    have hkl := (List.getElem?_eq_some_iff.1 h2.2).1
    repeat' (first | (simp -dsimp only [↓reduceIte, go_sem, hq, c2, h2.2, set_set, cellAt_setS, objs_setS, hkl]) | (refine arr_intro fun _ => ?_) | (refine later_intro ⟨keeps_nil, ?_⟩) | (refine later_intro ⟨keeps_refl, ?_⟩) | (with_reducible refine keeps_go ?_ ?_; focus (simp [keeps_cons, keeps_none, objs_app, objs_app0]; done)) | (refine both_ways ?_ ?_) | (rw [wrap_i64 (by omega) (by omega)]) | (refine guardV_split (fun h => ?_) (fun h => ?_) <;> (try rw [h]) <;> (try simp at h) <;> (try (exfalso; omega))))
    exact hK _ T t u (hR.upd hk hF)
  · have e : r.fields m = ((⟨m.kind, m.client, m.sub, m.rep, m.view, m.by_, m.tag, m.own, ⟨r.int.1, r.int.2.int.1, r.int.2.int.2.text.1, r.int.2.int.2.text.2.dig.1⟩, m.nums⟩ : Msg), r.int.2.int.2.text.2.dig.2) := by simp [Rdr.fields, hq]
    rw [e, hq] at hK
    simp -dsimp only [↓reduceIte, go_sem, hq]
    refine int_c hR fun s hR => ?_
    simp -dsimp only [↓reduceIte, go_sem, hq]
    refine int_c hR fun s hR => ?_
    simp -dsimp only [↓reduceIte, go_sem, hq]
    refine rtext_c hR fun s hR => ?_
    simp -dsimp only [↓reduceIte, go_sem, hq]
    refine rdig_c hR fun s hR => ?_
    have h2 := hR.f (k, _) (List.mem_cons_self ..)
    have c2 := cellAt_known h2.2
    have hkl := (List.getElem?_eq_some_iff.1 h2.2).1
    repeat' (first | (simp -dsimp only [↓reduceIte, go_sem, hq, c2, h2.2, set_set, cellAt_setS, objs_setS, hkl]) | (refine arr_intro fun _ => ?_) | (refine later_intro ⟨keeps_nil, ?_⟩) | (refine later_intro ⟨keeps_refl, ?_⟩) | (with_reducible refine keeps_go ?_ ?_; focus (simp [keeps_cons, keeps_none, objs_app, objs_app0]; done)) | (refine both_ways ?_ ?_) | (rw [wrap_i64 (by omega) (by omega)]) | (refine guardV_split (fun h => ?_) (fun h => ?_) <;> (try rw [h]) <;> (try simp at h) <;> (try (exfalso; omega))))
    exact hK _ T t u (hR.upd hk hF)
  · have e : r.fields m = ((⟨m.kind, m.client, m.sub, m.rep, m.view, m.by_, m.tag, m.own, ⟨r.int.1, r.int.2.int.1, r.int.2.int.2.text.1, r.int.2.int.2.text.2.dig.1⟩, m.nums⟩ : Msg), r.int.2.int.2.text.2.dig.2) := by simp [Rdr.fields, hq]
    rw [e, hq] at hK
    simp -dsimp only [↓reduceIte, go_sem, hq]
    refine int_c hR fun s hR => ?_
    simp -dsimp only [↓reduceIte, go_sem, hq]
    refine int_c hR fun s hR => ?_
    simp -dsimp only [↓reduceIte, go_sem, hq]
    refine rtext_c hR fun s hR => ?_
    simp -dsimp only [↓reduceIte, go_sem, hq]
    refine rdig_c hR fun s hR => ?_
    have h2 := hR.f (k, _) (List.mem_cons_self ..)
    have c2 := cellAt_known h2.2
    have hkl := (List.getElem?_eq_some_iff.1 h2.2).1
    repeat' (first | (simp -dsimp only [↓reduceIte, go_sem, hq, c2, h2.2, set_set, cellAt_setS, objs_setS, hkl]) | (refine arr_intro fun _ => ?_) | (refine later_intro ⟨keeps_nil, ?_⟩) | (refine later_intro ⟨keeps_refl, ?_⟩) | (with_reducible refine keeps_go ?_ ?_; focus (simp [keeps_cons, keeps_none, objs_app, objs_app0]; done)) | (refine both_ways ?_ ?_) | (rw [wrap_i64 (by omega) (by omega)]) | (refine guardV_split (fun h => ?_) (fun h => ?_) <;> (try rw [h]) <;> (try simp at h) <;> (try (exfalso; omega))))
    exact hK _ T t u (hR.upd hk hF)
  · have e : r.fields m = ((⟨m.kind, m.client, m.sub, m.rep, m.view, m.by_, m.tag, m.own, m.blob, r.ints.1⟩ : Msg), r.ints.2) := by simp [Rdr.fields, hq]
    rw [e, hq] at hK
    simp -dsimp only [↓reduceIte, go_sem, hq]
    refine withInts_c hR fun s hR => ?_
    have h2 := hR.f (k, _) (List.mem_cons_self ..)
    have c2 := cellAt_known h2.2
    have hkl := (List.getElem?_eq_some_iff.1 h2.2).1
    repeat' (first | (simp -dsimp only [↓reduceIte, go_sem, hq, c2, h2.2, set_set, cellAt_setS, objs_setS, hkl]) | (refine arr_intro fun _ => ?_) | (refine later_intro ⟨keeps_nil, ?_⟩) | (refine later_intro ⟨keeps_refl, ?_⟩) | (with_reducible refine keeps_go ?_ ?_; focus (simp [keeps_cons, keeps_none, objs_app, objs_app0]; done)) | (refine both_ways ?_ ?_) | (rw [wrap_i64 (by omega) (by omega)]) | (refine guardV_split (fun h => ?_) (fun h => ?_) <;> (try rw [h]) <;> (try simp at h) <;> (try (exfalso; omega))))
    exact hK _ T t (L01.tk' r.ints.1) (hR.upd hk hF)
  · have e : r.fields m = ((⟨m.kind, m.client, m.sub, m.rep, m.view, m.by_, m.tag, m.own, m.blob, r.ints.1⟩ : Msg), r.ints.2) := by simp [Rdr.fields, hq]
    rw [e, hq] at hK
    simp -dsimp only [↓reduceIte, go_sem, hq]
    refine withInts_c hR fun s hR => ?_
    have h2 := hR.f (k, _) (List.mem_cons_self ..)
    have c2 := cellAt_known h2.2
    have hkl := (List.getElem?_eq_some_iff.1 h2.2).1
    repeat' (first | (simp -dsimp only [↓reduceIte, go_sem, hq, c2, h2.2, set_set, cellAt_setS, objs_setS, hkl]) | (refine arr_intro fun _ => ?_) | (refine later_intro ⟨keeps_nil, ?_⟩) | (refine later_intro ⟨keeps_refl, ?_⟩) | (with_reducible refine keeps_go ?_ ?_; focus (simp [keeps_cons, keeps_none, objs_app, objs_app0]; done)) | (refine both_ways ?_ ?_) | (rw [wrap_i64 (by omega) (by omega)]) | (refine guardV_split (fun h => ?_) (fun h => ?_) <;> (try rw [h]) <;> (try simp at h) <;> (try (exfalso; omega))))
    exact hK _ T t (L01.tk' r.ints.1) (hR.upd hk hF)
  · have e : r.fields m = ((⟨m.kind, m.client, m.sub, m.rep, m.view, m.by_, m.tag, m.own, m.blob, r.ints.1⟩ : Msg), r.ints.2) := by simp [Rdr.fields, hq]
    rw [e, hq] at hK
    simp -dsimp only [↓reduceIte, go_sem, hq]
    refine withInts_c hR fun s hR => ?_
    have h2 := hR.f (k, _) (List.mem_cons_self ..)
    have c2 := cellAt_known h2.2
    have hkl := (List.getElem?_eq_some_iff.1 h2.2).1
    repeat' (first | (simp -dsimp only [↓reduceIte, go_sem, hq, c2, h2.2, set_set, cellAt_setS, objs_setS, hkl]) | (refine arr_intro fun _ => ?_) | (refine later_intro ⟨keeps_nil, ?_⟩) | (refine later_intro ⟨keeps_refl, ?_⟩) | (with_reducible refine keeps_go ?_ ?_; focus (simp [keeps_cons, keeps_none, objs_app, objs_app0]; done)) | (refine both_ways ?_ ?_) | (rw [wrap_i64 (by omega) (by omega)]) | (refine guardV_split (fun h => ?_) (fun h => ?_) <;> (try rw [h]) <;> (try simp at h) <;> (try (exfalso; omega))))
    exact hK _ T t (L01.tk' r.ints.1) (hR.upd hk hF)
  · have e : r.fields m = ((⟨m.kind, m.client, m.sub, m.rep, r.int.2.text.1, r.int.1, r.int.2.text.2.dig.1, r.int.2.text.2.dig.2.dig.1, m.blob, m.nums⟩ : Msg), r.int.2.text.2.dig.2.dig.2) := by simp [Rdr.fields, hq]
    rw [e, hq] at hK
    simp -dsimp only [↓reduceIte, go_sem, hq]
    refine int_c hR fun s hR => ?_
    simp -dsimp only [↓reduceIte, go_sem, hq]
    refine rtext_c hR fun s hR => ?_
    have h2 := hR.f (k, _) (List.mem_cons_self ..)
    have c2 := cellAt_known h2.2
    have hkl := (List.getElem?_eq_some_iff.1 h2.2).1
    repeat' (first | (simp -dsimp only [↓reduceIte, go_sem, hq, c2, h2.2, set_set, cellAt_setS, objs_setS, hkl]) | (refine arr_intro fun _ => ?_) | (refine later_intro ⟨keeps_nil, ?_⟩) | (refine later_intro ⟨keeps_refl, ?_⟩) | (with_reducible refine keeps_go ?_ ?_; focus (simp [keeps_cons, keeps_none, objs_app, objs_app0]; done)) | (refine both_ways ?_ ?_) | (rw [wrap_i64 (by omega) (by omega)]) | (refine guardV_split (fun h => ?_) (fun h => ?_) <;> (try rw [h]) <;> (try simp at h) <;> (try (exfalso; omega))))
    have hR := hR.upd (o' := .cells (msgV t u ⟨10, m.client, m.sub, m.rep, r.int.2.text.1, r.int.1, m.tag, m.own, m.blob, m.nums⟩)) hk hF
    refine rdig_c hR fun s hR => ?_
    simp -dsimp only [↓reduceIte, go_sem, hq]
    refine rdig_c hR fun s hR => ?_
    have h2 := hR.f (k, _) (List.mem_cons_self ..)
    have c2 := cellAt_known h2.2
    have hkl := (List.getElem?_eq_some_iff.1 h2.2).1
    repeat' (first | (simp -dsimp only [↓reduceIte, go_sem, hq, c2, h2.2, set_set, cellAt_setS, objs_setS, hkl]) | (refine arr_intro fun _ => ?_) | (refine later_intro ⟨keeps_nil, ?_⟩) | (refine later_intro ⟨keeps_refl, ?_⟩) | (with_reducible refine keeps_go ?_ ?_; focus (simp [keeps_cons, keeps_none, objs_app, objs_app0]; done)) | (refine both_ways ?_ ?_) | (rw [wrap_i64 (by omega) (by omega)]) | (refine guardV_split (fun h => ?_) (fun h => ?_) <;> (try rw [h]) <;> (try simp at h) <;> (try (exfalso; omega))))
    exact hK _ T t u (hR.upd hk hF)
  · have e : r.fields m = ((⟨m.kind, m.client, m.sub, m.rep, m.view, m.by_, m.tag, r.dig.1, m.blob, m.nums⟩ : Msg), r.dig.2) := by simp [Rdr.fields, hq]
    rw [e, hq] at hK
    simp -dsimp only [↓reduceIte, go_sem, hq]
    refine rdig_c hR fun s hR => ?_
    have h2 := hR.f (k, _) (List.mem_cons_self ..)
    have c2 := cellAt_known h2.2
    have hkl := (List.getElem?_eq_some_iff.1 h2.2).1
    repeat' (first | (simp -dsimp only [↓reduceIte, go_sem, hq, c2, h2.2, set_set, cellAt_setS, objs_setS, hkl]) | (refine arr_intro fun _ => ?_) | (refine later_intro ⟨keeps_nil, ?_⟩) | (refine later_intro ⟨keeps_refl, ?_⟩) | (with_reducible refine keeps_go ?_ ?_; focus (simp [keeps_cons, keeps_none, objs_app, objs_app0]; done)) | (refine both_ways ?_ ?_) | (rw [wrap_i64 (by omega) (by omega)]) | (refine guardV_split (fun h => ?_) (fun h => ?_) <;> (try rw [h]) <;> (try simp at h) <;> (try (exfalso; omega))))
    exact hK _ T t u (hR.upd hk hF)
  · have e : r.fields m = (m, r) := by simp [Rdr.fields, hq]
    rw [e] at hK
    repeat' (first | (simp -dsimp only [↓reduceIte, go_sem, hq, c0]) | (refine arr_intro fun _ => ?_) | (refine later_intro ⟨keeps_nil, ?_⟩) | (refine later_intro ⟨keeps_refl, ?_⟩) | (with_reducible refine keeps_go ?_ ?_; focus (simp [keeps_cons, keeps_none, objs_app, objs_app0]; done)) | (refine both_ways ?_ ?_) | (rw [wrap_i64 (by omega) (by omega)]) | (refine guardV_split (fun h => ?_) (fun h => ?_) <;> (try rw [h]) <;> (try simp at h) <;> (try (exfalso; omega))))
    exact hK _ T t u hR
end Go.Aff.L10

