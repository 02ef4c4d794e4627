import Derived.Test.YtnpbneiaflgpdaaG33

set_option linter.unusedSimpArgs false
set_option linter.unusedVariables false

/- Layer 10, walked: the reference's reader of answers. -/
-- cuts
namespace Go.Aff.L10
open Go.Proofs Go.Aff Go.Aff.L01 Classical
set_option linter.unusedVariables false
set_option linter.unusedSimpArgs false
set_option maxRecDepth 20000
attribute [local go_sem] push_app app_app length_app cellAt_app cellAt_app0 set_app set_app0 objs_app objs_app0 List.cons_append List.nil_append List.length_cons List.length_nil List.getElem?_cons_zero List.getElem?_cons_succ List.set_cons_zero List.set_cons_succ List.length_map
attribute [-go_sem] cellAt_new
attribute [-simp] List.length_flatMap
attribute [local go_sem] Try.underlying3 Try.underlying4 Try.underlying5 Try.underlying9 Try.underlying22 Try.underlying23 Try.underlying26 Try.underlying31 Try.underlying34 Try.underlying52 subPs_0 subAt_0 subSet_0 subPs_1 subAt_1 subSet_1 subPs_2 subAt_2 subSet_2 subPs_3 subAt_3 subSet_3 subPs_4 subAt_4 subSet_4 subPs_5 subAt_5 subSet_5 sizes_sub shapes_sub fits_sub zero_sub zt_sub built_sub Try.underlying25 pendPs_0 pendAt_0 pendSet_0 pendPs_1 pendAt_1 pendSet_1 pendPs_2 pendAt_2 pendSet_2 pendPs_3 pendAt_3 pendSet_3 pendPs_4 pendAt_4 pendSet_4 pendPs_5 pendAt_5 pendSet_5 sizes_pend shapes_pend fits_pend zero_pend zt_pend built_pend Try.underlying98 repPs_0 repAt_0 repSet_0 repPs_1 repAt_1 repSet_1 repPs_2 repAt_2 repSet_2 repPs_3 repAt_3 repSet_3 repPs_4 repAt_4 repSet_4 repPs_5 repAt_5 repSet_5 repPs_6 repAt_6 repSet_6 repPs_7 repAt_7 repSet_7 repPs_8 repAt_8 repSet_8 repPs_9 repAt_9 repSet_9 sizes_rep shapes_rep fits_rep zero_rep zt_rep built_rep Try.underlying28 blobPs_0 blobAt_0 blobSet_0 blobPs_1 blobAt_1 blobSet_1 blobPs_2 blobAt_2 blobSet_2 blobPs_3 blobAt_3 blobSet_3 sizes_blob shapes_blob fits_blob zero_blob zt_blob built_blob Try.underlying30 msgPs_0 msgAt_0 msgSet_0 msgPs_1 msgAt_1 msgSet_1 msgPs_2 msgAt_2 msgSet_2 msgPs_3 msgAt_3 msgSet_3 msgPs_4 msgAt_4 msgSet_4 msgPs_5 msgAt_5 msgSet_5 msgPs_6 msgAt_6 msgSet_6 msgPs_7 msgAt_7 msgSet_7 msgPs_8 msgAt_8 msgSet_8 msgPs_9 msgAt_9 msgSet_9 sizes_msg shapes_msg fits_msg zero_msg zt_msg built_msg Try.underlying33 at_Ps_0 at_At_0 at_Set_0 at_Ps_1 at_At_1 at_Set_1 sizes_at_ shapes_at_ fits_at_ zero_at_ zt_at_ built_at_ Try.underlying77
attribute [local go_sem] fits3 fits4 fits5 fits9 fits23 fits26 fits31 fits34 fits52 zt3 zero3 zt34 zero34 zt23 zero23 bin_sub_eql bin_pend_eql bin_pend_neq bin_blob_eql bin_dig23_eql bin_dig23_neq slice23
attribute [local go_sem ↓] blockQ_exit2
attribute [local simp] dig_ext
attribute [local go_sem] rdrPs_0 rdrAt_0 rdrSet_0 rdrPs_1 rdrAt_1 rdrSet_1 rdrPs_2 rdrAt_2 rdrSet_2 sizes_rdr shapes_rdr fits_rdr zero_rdr zt_rdr built_rdr Try.underlying72 Try.underlying70 Try.underlying75 bin_bool_ne appc appn built23
attribute [local go_sem] msgSet_9s slV_eq
attribute [local go_sem ↓] res_cc
/-- What is known of memory. -/
structure KF (σ0 s : AST) (F : List (Nat × AObj)) : Prop where
  x : Ext σ0 s
  f : ∀ x ∈ F, s.objs[x.1]? = some x.2
section
variable {σ0 s : AST} {F G : List (Nat × AObj)}
theorem KF.mono (h : KF σ0 s F) (hg : ∀ x ∈ G, x ∈ F) : KF σ0 s G := ⟨h.x, fun x hx => h.f x (hg x hx)⟩
theorem KF.push {o : AObj} (h : KF σ0 s F) : KF σ0 (s.app [o]) ((s.objs.length, o) :: F) := ⟨h.x.trans (Ext.app _ _), fun x hx => by
  rcases List.mem_cons.1 hx with rfl | hx
  · exact objs_app0
  · exact objs_known_app (h.f x hx) _⟩
theorem KF.push2 {o p : AObj} (h : KF σ0 s F) : KF σ0 (s.app [o, p]) ((s.objs.length, o) :: (s.objs.length + 1, p) :: F) := ⟨h.x.trans (Ext.app _ _), fun x hx => by
  rcases List.mem_cons.1 hx with rfl | hx
  · exact objs_app0
  · rcases List.mem_cons.1 hx with rfl | hx
    · exact objs_app (k := 1)
    · exact objs_known_app (h.f x hx) _⟩
theorem KF.push' {k : Nat} {o o' : AObj} (h : KF σ0 s ((k, o) :: F)) : KF σ0 (s.app [o']) ((k, o) :: (s.objs.length, o') :: F) := h.push.mono (by
  intro x hx
  simp only [List.mem_cons] at hx ⊢
  rcases hx with h | h | h
  · exact .inr (.inl h)
  · exact .inl h
  · exact .inr (.inr h))
theorem KF.upd {k : Nat} {o o' : AObj} (h : KF σ0 s ((k, o) :: F)) (hk : σ0.objs.length ≤ k) (hF : ∀ x ∈ F, x.1 ≠ k) : KF σ0 (s.set k o') ((k, o') :: F) := by
  have h1 := h.f (k, o) (List.mem_cons_self ..)
  have hkl := (List.getElem?_eq_some_iff.1 h1).1
  refine ⟨h.x.set hk, fun x hx => ?_⟩
  rcases List.mem_cons.1 hx with rfl | hx
  · exact objs_setS hkl
  · rw [objs_setN (fun e => hF x hx e.symm)]; exact h.f x (List.mem_cons_of_mem _ hx)
theorem KF.growS {tk : Tk} {n e : Nat} (h : KF σ0 s F) (ht : tkNew σ0 tk) : KF σ0 (Go.Aff.growS s tk n e) F := ⟨h.x.grow ht, fun x hx => by rw [growS_objs]; exact h.f x hx⟩
end
theorem refRep_c {s : List UInt8} {r : Rdr} {a : At} {σ : AST} {K : AV → AST → Prop} (hS : Sim s r a) (hK : ∀ b t, Sim s r.rep.2 b → K (.tuple [repV t r.rep.1, at_V b]) σ) : TCalls Try.prog 47 [.str s, at_V a] σ K := by
  refine TCalls.drop ?_
  refine tcalls_walk Try.f47 _ [.cell 4 28, .cell 5 77] Try.func47 rfl rfl rfl mixed (Nat.le_of_ble_eq_true rfl) rfl fun hlen => ?_
  repeat' (first | (simp -dsimp only [↓reduceIte, go_sem]) | (refine arr_intro fun _ => ?_) | (refine later_intro ⟨keeps_nil, ?_⟩) | (refine later_intro ⟨keeps_refl, ?_⟩) | (with_reducible refine keeps_go ?_ ?_; focus (first | (simp [keeps_cons, keeps_none, objs_app, objs_app0]; done) | (simp only [keeps_cons, keeps_none, objs_app0, objs_app, and_true]; first | rfl | exact ⟨rfl, rfl⟩ | exact ⟨rfl, rfl, rfl⟩))) | (with_reducible refine (And.intro (a := keeps _ _ _) ?_ ?_); focus (first | (simp [keeps_cons, keeps_none, objs_app, objs_app0]; done) | (simp only [keeps_cons, keeps_none, objs_app0, objs_app, and_true]; first | rfl | exact ⟨rfl, rfl⟩ | exact ⟨rfl, rfl, rfl⟩))) | (refine both_ways ?_ ?_) | (rw [wrap_i64 (by omega) (by omega)]) | (refine guardV_split (fun h => ?_) (fun h => ?_) <;> (try rw [h]) <;> (try simp at h) <;> (try (exfalso; omega))))
  refine refInt_c hS fun b hS => ?_
  repeat' (first | (simp -dsimp only [↓reduceIte, go_sem]) | (refine arr_intro fun _ => ?_) | (refine later_intro ⟨keeps_nil, ?_⟩) | (refine later_intro ⟨keeps_refl, ?_⟩) | (with_reducible refine keeps_go ?_ ?_; focus (first | (simp [keeps_cons, keeps_none, objs_app, objs_app0]; done) | (simp only [keeps_cons, keeps_none, objs_app0, objs_app, and_true]; first | rfl | exact ⟨rfl, rfl⟩ | exact ⟨rfl, rfl, rfl⟩))) | (with_reducible refine (And.intro (a := keeps _ _ _) ?_ ?_); focus (first | (simp [keeps_cons, keeps_none, objs_app, objs_app0]; done) | (simp only [keeps_cons, keeps_none, objs_app0, objs_app, and_true]; first | rfl | exact ⟨rfl, rfl⟩ | exact ⟨rfl, rfl, rfl⟩))) | (refine both_ways ?_ ?_) | (rw [wrap_i64 (by omega) (by omega)]) | (refine guardV_split (fun h => ?_) (fun h => ?_) <;> (try rw [h]) <;> (try simp at h) <;> (try (exfalso; omega))))
  refine refInt_c hS fun b hS => ?_
  repeat' (first | (simp -dsimp only [↓reduceIte, go_sem]) | (refine arr_intro fun _ => ?_) | (refine later_intro ⟨keeps_nil, ?_⟩) | (refine later_intro ⟨keeps_refl, ?_⟩) | (with_reducible refine keeps_go ?_ ?_; focus (first | (simp [keeps_cons, keeps_none, objs_app, objs_app0]; done) | (simp only [keeps_cons, keeps_none, objs_app0, objs_app, and_true]; first | rfl | exact ⟨rfl, rfl⟩ | exact ⟨rfl, rfl, rfl⟩))) | (with_reducible refine (And.intro (a := keeps _ _ _) ?_ ?_); focus (first | (simp [keeps_cons, keeps_none, objs_app, objs_app0]; done) | (simp only [keeps_cons, keeps_none, objs_app0, objs_app, and_true]; first | rfl | exact ⟨rfl, rfl⟩ | exact ⟨rfl, rfl, rfl⟩))) | (refine both_ways ?_ ?_) | (rw [wrap_i64 (by omega) (by omega)]) | (refine guardV_split (fun h => ?_) (fun h => ?_) <;> (try rw [h]) <;> (try simp at h) <;> (try (exfalso; omega))))
  refine refStr_c hS fun b hS => ?_
  repeat' (first | (simp -dsimp only [↓reduceIte, go_sem]) | (refine arr_intro fun _ => ?_) | (refine later_intro ⟨keeps_nil, ?_⟩) | (refine later_intro ⟨keeps_refl, ?_⟩) | (with_reducible refine keeps_go ?_ ?_; focus (first | (simp [keeps_cons, keeps_none, objs_app, objs_app0]; done) | (simp only [keeps_cons, keeps_none, objs_app0, objs_app, and_true]; first | rfl | exact ⟨rfl, rfl⟩ | exact ⟨rfl, rfl, rfl⟩))) | (with_reducible refine (And.intro (a := keeps _ _ _) ?_ ?_); focus (first | (simp [keeps_cons, keeps_none, objs_app, objs_app0]; done) | (simp only [keeps_cons, keeps_none, objs_app0, objs_app, and_true]; first | rfl | exact ⟨rfl, rfl⟩ | exact ⟨rfl, rfl, rfl⟩))) | (refine both_ways ?_ ?_) | (rw [wrap_i64 (by omega) (by omega)]) | (refine guardV_split (fun h => ?_) (fun h => ?_) <;> (try rw [h]) <;> (try simp at h) <;> (try (exfalso; omega))))
  refine refDigest_c hS fun b hS => ?_
  repeat' (first | (simp -dsimp only [↓reduceIte, go_sem]) | (refine arr_intro fun _ => ?_) | (refine later_intro ⟨keeps_nil, ?_⟩) | (refine later_intro ⟨keeps_refl, ?_⟩) | (with_reducible refine keeps_go ?_ ?_; focus (first | (simp [keeps_cons, keeps_none, objs_app, objs_app0]; done) | (simp only [keeps_cons, keeps_none, objs_app0, objs_app, and_true]; first | rfl | exact ⟨rfl, rfl⟩ | exact ⟨rfl, rfl, rfl⟩))) | (with_reducible refine (And.intro (a := keeps _ _ _) ?_ ?_); focus (first | (simp [keeps_cons, keeps_none, objs_app, objs_app0]; done) | (simp only [keeps_cons, keeps_none, objs_app0, objs_app, and_true]; first | rfl | exact ⟨rfl, rfl⟩ | exact ⟨rfl, rfl, rfl⟩))) | (refine both_ways ?_ ?_) | (rw [wrap_i64 (by omega) (by omega)]) | (refine guardV_split (fun h => ?_) (fun h => ?_) <;> (try rw [h]) <;> (try simp at h) <;> (try (exfalso; omega))))
  refine refInt_c hS fun b hS => ?_
  have e1 : r.rep1.2.1 = r.int.2.int.2.text.2.dig.2.int.1 := rfl
  have e2 : r.rep1.2.2 = if r.int.2.int.2.text.2.dig.2.int.2.e = 0 ∧ ¬ In 0 8 r.int.2.int.2.text.2.dig.2.int.1 then { r.int.2.int.2.text.2.dig.2.int.2 with e := 6 } else r.int.2.int.2.text.2.dig.2.int.2 := rfl
  rw [← e1] at e2 ⊢
  have hre : r.rep = Rdr.rep2 { r.rep1.1 with pending := (Rdr.pends r.rep1.2.1.toNat r.rep1.2.2).1 } (Rdr.pends r.rep1.2.1.toNat r.rep1.2.2).2 := rfl
  have hX : r.rep1.1 = ⟨r.int.1, r.int.2.int.1, r.int.2.int.2.text.1, r.int.2.int.2.text.2.dig.1, [], 0, [], dig0, [], dig0⟩ := rfl
  rw [hre, hX] at hK
  generalize r.rep1.2.1 = n at *
  generalize r.int.2.int.2.text.2.dig.2.int.2 = r2 at *
  generalize r.int.2.int.2.text.2.dig.1 = vD at *
  generalize r.int.2.int.2.text.1 = vT at *
  generalize r.int.2.int.1 = vL at *
  generalize r.int.1 = vN at *
  clear hX e1 hre
  have hn : r.rep1.2.2.e = 0 → 0 ≤ n ∧ n ≤ 8 := fun h0 => by
    by_cases hc : r2.e = 0 ∧ ¬ In 0 8 n
    · rw [if_pos hc] at e2; rw [e2] at h0; simp at h0
    · rw [if_neg hc] at e2; rw [e2] at h0
      exact Classical.byContradiction fun hin => hc ⟨h0, hin⟩
  have hS6 : r2.e = 0 → ¬ In 0 8 n → Sim s r.rep1.2.2 ⟨b.n, 6⟩ := fun h0 h1 => by
    rw [if_pos ⟨h0, h1⟩] at e2; rw [e2]; exact ⟨hS.q, rfl, fun h => by simp at h, hS.l⟩
  have hS0 : ¬ (r2.e = 0 ∧ ¬ In 0 8 n) → Sim s r.rep1.2.2 b := fun h0 => by
    rw [if_neg h0] at e2; rw [e2]; exact hS
  have hbe := hS.e
  repeat' (first | (simp -dsimp only [↓reduceIte, go_sem]) | (refine arr_intro fun _ => ?_) | (refine later_intro ⟨keeps_nil, ?_⟩) | (refine later_intro ⟨keeps_refl, ?_⟩) | (with_reducible refine keeps_go ?_ ?_; focus (first | (simp [keeps_cons, keeps_none, objs_app, objs_app0]; done) | (simp only [keeps_cons, keeps_none, objs_app0, objs_app, and_true]; first | rfl | exact ⟨rfl, rfl⟩ | exact ⟨rfl, rfl, rfl⟩))) | (with_reducible refine (And.intro (a := keeps _ _ _) ?_ ?_); focus (first | (simp [keeps_cons, keeps_none, objs_app, objs_app0]; done) | (simp only [keeps_cons, keeps_none, objs_app0, objs_app, and_true]; first | rfl | exact ⟨rfl, rfl⟩ | exact ⟨rfl, rfl, rfl⟩))) | (refine both_ways ?_ ?_) | (rw [wrap_i64 (by omega) (by omega)]) | (refine guardV_split (fun h => ?_) (fun h => ?_) <;> (try rw [h]) <;> (try simp at h) <;> (try (exfalso; omega))) | (refine Within_c ?_))
  all_goals
    first
      | (have hS3 := hS6 (by rw [← hbe]; assumption) (by assumption)
         generalize (⟨b.n, 6⟩ : At) = b3 at hS3 ⊢)
      | (have hS3 := hS0 (by rw [← hbe]; simp_all)
         generalize b = b3 at hS3 ⊢)
    clear hS6 hS0 e2
    generalize r.rep1.2.2 = r3 at *
    have hKF : KF σ (σ.app [.cells (at_V b3), .cells (repV .full rep0), .cells (at_V at_0), .cells (.dig vD)]) [(σ.objs.length, .cells (at_V b3)), (σ.objs.length + 1, .cells (repV .full rep0)), (σ.objs.length + 2, .cells (at_V at_0)), (σ.objs.length + 3, .cells (.dig vD))] := by
      refine ⟨Ext.app _ _, fun x hx => ?_⟩
      simp only [List.mem_cons, List.not_mem_nil, or_false] at hx
      rcases hx with rfl | rfl | rfl | rfl <;> simp [AST.app]
    generalize hP : Rdr.pends n.toNat r3 = P at hK
    refine awp_rounds (fun (x : Nat × List Pend × Rdr × At) τ st => ∃ tk, KF σ st [(σ.objs.length, .cells (at_V x.2.2.2)), (σ.objs.length + 1, .cells (repV .full rep0)), (σ.objs.length + 2, .cells (at_V at_0)), (σ.objs.length + 3, .cells (.dig vD))] ∧ Sim s x.2.2.1 x.2.2.2 ∧ tkNew σ tk ∧ canApp st tk x.2.1.length 68 ∧ (x.2.2.1.e = 0 → 0 ≤ n ∧ n ≤ 8) ∧ x.2.1.length ≤ x.1 ∧ x.1 ≤ n.toNat ∧
      x.2.1 ++ (Rdr.pends (n.toNat - x.1) x.2.2.1).1 = P.1 ∧ (Rdr.pends (n.toNat - x.1) x.2.2.1).2 = P.2 ∧ τ 0 = .str s ∧ τ 3 = .ptr (some (σ.objs.length, [])) ∧ τ 4 = .ptr (some (σ.objs.length + 1, [])) ∧ τ 5 = .ptr (some (σ.objs.length + 2, [])) ∧ τ 6 = .int .i64 vN ∧ τ 7 = .int .i64 vL ∧ τ 8 = .str vT ∧ τ 9 = .ptr (some (σ.objs.length + 3, [])) ∧ τ 10 = .int .i64 n ∧ τ 11 = .slice tk (x.2.1.map pendV) ∧ τ 12 = .int .i64 x.1) (fun x => n.toNat - x.1) (0, [], r3, b3) ?_ ?_
    · refine ⟨.full, hKF, hS3, .inl rfl, trivial, hn, by simp, by simp, ?_, ?_, ?_, ?_, ?_, ?_, ?_, ?_, ?_, ?_, ?_, ?_, ?_⟩ <;> (try simp only [go_sem]) <;> (try rfl) <;> simp [hP]
    · clear hKF hS3 hn
      rintro ⟨i, acc, r', b'⟩ τ st ⟨tk, hKF, hS, htk, hca, hn, hal, hi, hP1, hP2, t0, t3, t4, t5, t6, t7, t8, t9, t10, t11, t12⟩
      dsimp only at hKF hS hca hn hal hi hP1 hP2 t11 t12 ⊢
      have o0 := hKF.f (σ.objs.length, .cells (at_V b')) (by simp)
      dsimp only at o0
      have c0 := cellAt_known o0
      have hse := hS.e
      have hne : ∀ x ∈ [(σ.objs.length + 1, AObj.cells (repV .full rep0)), (σ.objs.length + 2, .cells (at_V at_0)), (σ.objs.length + 3, .cells (.dig vD))], x.1 ≠ σ.objs.length := by
        intro x hx
        simp only [List.mem_cons, List.not_mem_nil, or_false] at hx
        rcases hx with rfl | rfl | rfl <;> simp
      by_cases hgo : (i : Int) < n ∧ r'.e = 0
      · obtain ⟨hlt0, he⟩ := hgo
        have hn8 := hn he
        have hn2 : ∀ {q : Prop}, q → 0 ≤ n ∧ n ≤ 8 := fun _ => hn8
        rw [he] at hse
        repeat' (first | (simp -dsimp only [↓reduceIte, go_sem, t0, t3, t4, t5, t10, t11, t12, c0, hse]) | (refine arr_intro fun _ => ?_) | (refine later_intro ⟨keeps_nil, ?_⟩) | (refine later_intro ⟨keeps_refl, ?_⟩) | (with_reducible refine keeps_go ?_ ?_; focus (first | (simp [keeps_cons, keeps_none, objs_app, objs_app0]; done) | (simp only [keeps_cons, keeps_none, objs_app0, objs_app, and_true]; first | rfl | exact ⟨rfl, rfl⟩ | exact ⟨rfl, rfl, rfl⟩))) | (with_reducible refine (And.intro (a := keeps _ _ _) ?_ ?_); focus (first | (simp [keeps_cons, keeps_none, objs_app, objs_app0]; done) | (simp only [keeps_cons, keeps_none, objs_app0, objs_app, and_true]; first | rfl | exact ⟨rfl, rfl⟩ | exact ⟨rfl, rfl, rfl⟩))) | (refine both_ways ?_ ?_) | (rw [wrap_i64 (by omega) (by omega)]) | (refine guardV_split (fun h => ?_) (fun h => ?_) <;> (try rw [h]) <;> (try simp at h) <;> (try (exfalso; omega))))
        refine refOne_c hS fun b2 hS2 => ?_
        have hpd : Rdr.pends (n.toNat - i) r' = (r'.pend.1 :: (Rdr.pends (n.toNat - (i + 1)) r'.pend.2).1, (Rdr.pends (n.toNat - (i + 1)) r'.pend.2).2) := by
          rw [show n.toNat - i = (n.toNat - (i + 1)) + 1 by omega, Rdr.pends, if_neg (by simp [he])]
        rw [hpd] at hP1 hP2
        generalize r'.pend.1 = p at *
        generalize r'.pend.2 = r4 at *
        repeat' (first | (simp -dsimp only [↓reduceIte, go_sem, t0, t3, t4, t5, t10, t11, t12]) | (refine arr_intro fun _ => ?_) | (refine later_intro ⟨keeps_nil, ?_⟩) | (refine later_intro ⟨keeps_refl, ?_⟩) | (with_reducible refine keeps_go ?_ ?_; focus (first | (simp [keeps_cons, keeps_none, objs_app, objs_app0]; done) | (simp only [keeps_cons, keeps_none, objs_app0, objs_app, and_true]; first | rfl | exact ⟨rfl, rfl⟩ | exact ⟨rfl, rfl, rfl⟩))) | (with_reducible refine (And.intro (a := keeps _ _ _) ?_ ?_); focus (first | (simp [keeps_cons, keeps_none, objs_app, objs_app0]; done) | (simp only [keeps_cons, keeps_none, objs_app0, objs_app, and_true]; first | rfl | exact ⟨rfl, rfl⟩ | exact ⟨rfl, rfl, rfl⟩))) | (refine both_ways ?_ ?_) | (rw [wrap_i64 (by omega) (by omega)]) | (refine guardV_split (fun h => ?_) (fun h => ?_) <;> (try rw [h]) <;> (try simp at h) <;> (try (exfalso; omega))) | (refine build_slice E26 rfl (by decide) (by intro v hv; simp at hv; subst hv; simp [go_sem]) ?_) | (refine append_pend (by rw [canApp_app]; exact hca) (by omega) ?_))
        have hG : KF σ (growS (st.app [.cells (pendV p), .cells (at_V b2)]) tk (acc.length + 1) 68) [(σ.objs.length, .cells (at_V b')), (σ.objs.length + 1, .cells (repV .full rep0)), (σ.objs.length + 2, .cells (at_V at_0)), (σ.objs.length + 3, .cells (.dig vD))] := (hKF.push2.mono (by simp +contextual)).growS htk
        have og := hG.f (σ.objs.length, .cells (at_V b')) (by simp)
        dsimp only at og
        repeat' (first | (simp -dsimp only [↓reduceIte, go_sem, t0, t3, t4, t5, t10, t11, t12, og]) | (refine arr_intro fun _ => ?_) | (refine later_intro ⟨keeps_nil, ?_⟩) | (refine later_intro ⟨keeps_refl, ?_⟩) | (with_reducible refine keeps_go ?_ ?_; focus (first | (simp [keeps_cons, keeps_none, objs_app, objs_app0]; done) | (simp only [keeps_cons, keeps_none, objs_app0, objs_app, and_true]; first | rfl | exact ⟨rfl, rfl⟩ | exact ⟨rfl, rfl, rfl⟩))) | (with_reducible refine (And.intro (a := keeps _ _ _) ?_ ?_); focus (first | (simp [keeps_cons, keeps_none, objs_app, objs_app0]; done) | (simp only [keeps_cons, keeps_none, objs_app0, objs_app, and_true]; first | rfl | exact ⟨rfl, rfl⟩ | exact ⟨rfl, rfl, rfl⟩))) | (refine both_ways ?_ ?_) | (rw [wrap_i64 (by omega) (by omega)]) | (refine guardV_split (fun h => ?_) (fun h => ?_) <;> (try rw [h]) <;> (try simp at h) <;> (try (exfalso; omega))))
        refine later_intro ⟨(i + 1, acc ++ [p], r4, b2), by dsimp only; omega, growT st tk, ?_, hS2, ?_, ?_, hn2, ?_, ?_, ?_, ?_, ?_, ?_, ?_, ?_, ?_, ?_, ?_, ?_, ?_, ?_, ?_⟩ <;> (try simp only [go_sem, t0, t3, t4, t5, t6, t7, t8, t9, t10, t11, t12]) <;> (try rfl)
        · exact hG.upd (Nat.le_refl _) hne
        · exact htk.grow hKF.x
        · rw [canApp_set]; simp only [List.length_append, List.length_cons, List.length_nil]
          have h9 := canApp_grow (es := 68) (n := acc.length + 1) (show canApp (st.app [.cells (pendV p), .cells (at_V b2)]) tk acc.length 68 by rw [canApp_app]; exact hca)
          rw [growT_app] at h9; exact h9
        · simp; omega
        · omega
        · rw [← hP1]; simp
        · exact hP2
      · have hz : Rdr.pends (n.toNat - i) r' = ([], r') := by
          by_cases he : r'.e = 0
          · rw [show n.toNat - i = 0 by omega]; rfl
          · exact pends_err he
        rw [hz] at hP1 hP2
        dsimp only at hP1 hP2
        rw [List.append_nil] at hP1
        subst hP1 hP2
        have hg2 : (i : Int) < n → ¬ b'.e = 0 := fun h1 h2 => hgo ⟨h1, by rw [← hse]; exact h2⟩
        repeat' (first | (simp -dsimp only [↓reduceIte, go_sem, t0, t3, t4, t5, t10, t11, t12, c0, hg2]) | (refine arr_intro fun _ => ?_) | (refine later_intro ⟨keeps_nil, ?_⟩) | (refine later_intro ⟨keeps_refl, ?_⟩) | (with_reducible refine keeps_go ?_ ?_; focus (first | (simp [keeps_cons, keeps_none, objs_app, objs_app0]; done) | (simp only [keeps_cons, keeps_none, objs_app0, objs_app, and_true]; first | rfl | exact ⟨rfl, rfl⟩ | exact ⟨rfl, rfl, rfl⟩))) | (with_reducible refine (And.intro (a := keeps _ _ _) ?_ ?_); focus (first | (simp [keeps_cons, keeps_none, objs_app, objs_app0]; done) | (simp only [keeps_cons, keeps_none, objs_app0, objs_app, and_true]; first | rfl | exact ⟨rfl, rfl⟩ | exact ⟨rfl, rfl, rfl⟩))) | (refine both_ways ?_ ?_) | (rw [wrap_i64 (by omega) (by omega)]) | (refine guardV_split (fun h => ?_) (fun h => ?_) <;> (try rw [h]) <;> (try simp at h) <;> (try (exfalso; omega))))
        all_goals
          refine refInt_c hS fun b1 hS => ?_
          have o0 := hKF.f (σ.objs.length, _) (List.mem_cons_self ..)
          dsimp only at o0
          have hkl := (List.getElem?_eq_some_iff.1 o0).1
          repeat' (first | (simp -dsimp only [↓reduceIte, go_sem, t0, t3, t4, t5, t6, t7, t8, t9, t10, t11, t12, o0, cellAt_setS, hkl]) | (refine arr_intro fun _ => ?_) | (refine later_intro ⟨keeps_nil, ?_⟩) | (refine later_intro ⟨keeps_refl, ?_⟩) | (with_reducible refine keeps_go ?_ ?_; focus (first | (simp [keeps_cons, keeps_none, objs_app, objs_app0]; done) | (simp only [keeps_cons, keeps_none, objs_app0, objs_app, and_true]; first | rfl | exact ⟨rfl, rfl⟩ | exact ⟨rfl, rfl, rfl⟩))) | (with_reducible refine (And.intro (a := keeps _ _ _) ?_ ?_); focus (first | (simp [keeps_cons, keeps_none, objs_app, objs_app0]; done) | (simp only [keeps_cons, keeps_none, objs_app0, objs_app, and_true]; first | rfl | exact ⟨rfl, rfl⟩ | exact ⟨rfl, rfl, rfl⟩))) | (refine both_ways ?_ ?_) | (rw [wrap_i64 (by omega) (by omega)]) | (refine guardV_split (fun h => ?_) (fun h => ?_) <;> (try rw [h]) <;> (try simp at h) <;> (try (exfalso; omega))))
          have hKF := hKF.upd (o' := .cells (at_V b1)) (Nat.le_refl _) hne
          generalize st.set σ.objs.length (.cells (at_V b1)) = st at hKF ⊢
          refine refStr_c hS fun b2 hS => ?_
          have o0 := hKF.f (σ.objs.length, _) (List.mem_cons_self ..)
          dsimp only at o0
          have hkl := (List.getElem?_eq_some_iff.1 o0).1
          repeat' (first | (simp -dsimp only [↓reduceIte, go_sem, t0, t3, t4, t5, t6, t7, t8, t9, t10, t11, t12, o0, cellAt_setS, hkl]) | (refine arr_intro fun _ => ?_) | (refine later_intro ⟨keeps_nil, ?_⟩) | (refine later_intro ⟨keeps_refl, ?_⟩) | (with_reducible refine keeps_go ?_ ?_; focus (first | (simp [keeps_cons, keeps_none, objs_app, objs_app0]; done) | (simp only [keeps_cons, keeps_none, objs_app0, objs_app, and_true]; first | rfl | exact ⟨rfl, rfl⟩ | exact ⟨rfl, rfl, rfl⟩))) | (with_reducible refine (And.intro (a := keeps _ _ _) ?_ ?_); focus (first | (simp [keeps_cons, keeps_none, objs_app, objs_app0]; done) | (simp only [keeps_cons, keeps_none, objs_app0, objs_app, and_true]; first | rfl | exact ⟨rfl, rfl⟩ | exact ⟨rfl, rfl, rfl⟩))) | (refine both_ways ?_ ?_) | (rw [wrap_i64 (by omega) (by omega)]) | (refine guardV_split (fun h => ?_) (fun h => ?_) <;> (try rw [h]) <;> (try simp at h) <;> (try (exfalso; omega))))
          have hKF := hKF.upd (o' := .cells (at_V b2)) (Nat.le_refl _) hne
          generalize st.set σ.objs.length (.cells (at_V b2)) = st at hKF ⊢
          refine refDigest_c hS fun b3 hS => ?_
          have o0 := hKF.f (σ.objs.length, _) (List.mem_cons_self ..)
          dsimp only at o0
          have hkl := (List.getElem?_eq_some_iff.1 o0).1
          have hi3 : st.objs.length ≠ σ.objs.length := by omega
          have hKF := hKF.push' (o' := .cells (.dig P.2.int.2.text.2.dig.1))
          have oA := hKF.f (σ.objs.length, _) (List.mem_cons_self ..)
          dsimp only at oA
          have hkA := (List.getElem?_eq_some_iff.1 oA).1
          repeat' (first | (simp -dsimp only [↓reduceIte, go_sem, t0, t3, t4, t5, t6, t7, t8, t9, t10, t11, t12, oA, cellAt_setS, hkA]) | (refine arr_intro fun _ => ?_) | (refine later_intro ⟨keeps_nil, ?_⟩) | (refine later_intro ⟨keeps_refl, ?_⟩) | (with_reducible refine keeps_go ?_ ?_; focus (first | (simp [keeps_cons, keeps_none, objs_app, objs_app0]; done) | (simp only [keeps_cons, keeps_none, objs_app0, objs_app, and_true]; first | rfl | exact ⟨rfl, rfl⟩ | exact ⟨rfl, rfl, rfl⟩))) | (with_reducible refine (And.intro (a := keeps _ _ _) ?_ ?_); focus (first | (simp [keeps_cons, keeps_none, objs_app, objs_app0]; done) | (simp only [keeps_cons, keeps_none, objs_app0, objs_app, and_true]; first | rfl | exact ⟨rfl, rfl⟩ | exact ⟨rfl, rfl, rfl⟩))) | (refine both_ways ?_ ?_) | (rw [wrap_i64 (by omega) (by omega)]) | (refine guardV_split (fun h => ?_) (fun h => ?_) <;> (try rw [h]) <;> (try simp at h) <;> (try (exfalso; omega))))
          generalize hI3 : st.objs.length = i3 at hKF hi3 ⊢
          have hne : ∀ x ∈ (i3, AObj.cells (.dig P.2.int.2.text.2.dig.1)) :: _, x.1 ≠ σ.objs.length := List.forall_mem_cons.2 ⟨hi3, hne⟩
          have hKF := hKF.upd (o' := .cells (at_V b3)) (Nat.le_refl _) hne
          generalize (st.app [AObj.cells (.dig P.2.int.2.text.2.dig.1)]).set σ.objs.length (.cells (at_V b3)) = st at hKF ⊢
          have c0 := cellAt_known (hKF.f (σ.objs.length, _) (List.mem_cons_self ..))
          repeat' (first | (simp -dsimp only [↓reduceIte, go_sem, t0, t3, t4, t5, t6, t7, t8, t9, t10, t11, t12, c0]) | (refine arr_intro fun _ => ?_) | (refine later_intro ⟨keeps_nil, ?_⟩) | (refine later_intro ⟨keeps_refl, ?_⟩) | (with_reducible refine keeps_go ?_ ?_; focus (first | (simp [keeps_cons, keeps_none, objs_app, objs_app0]; done) | (simp only [keeps_cons, keeps_none, objs_app0, objs_app, and_true]; first | rfl | exact ⟨rfl, rfl⟩ | exact ⟨rfl, rfl, rfl⟩))) | (with_reducible refine (And.intro (a := keeps _ _ _) ?_ ?_); focus (first | (simp [keeps_cons, keeps_none, objs_app, objs_app0]; done) | (simp only [keeps_cons, keeps_none, objs_app0, objs_app, and_true]; first | rfl | exact ⟨rfl, rfl⟩ | exact ⟨rfl, rfl, rfl⟩))) | (refine both_ways ?_ ?_) | (rw [wrap_i64 (by omega) (by omega)]) | (refine guardV_split (fun h => ?_) (fun h => ?_) <;> (try rw [h]) <;> (try simp at h) <;> (try (exfalso; omega))))
          refine refStr_c hS fun b4 hS => ?_
          have o0 := hKF.f (σ.objs.length, _) (List.mem_cons_self ..)
          dsimp only at o0
          have hkl := (List.getElem?_eq_some_iff.1 o0).1
          repeat' (first | (simp -dsimp only [↓reduceIte, go_sem, t0, t3, t4, t5, t6, t7, t8, t9, t10, t11, t12, o0, cellAt_setS, hkl]) | (refine arr_intro fun _ => ?_) | (refine later_intro ⟨keeps_nil, ?_⟩) | (refine later_intro ⟨keeps_refl, ?_⟩) | (with_reducible refine keeps_go ?_ ?_; focus (first | (simp [keeps_cons, keeps_none, objs_app, objs_app0]; done) | (simp only [keeps_cons, keeps_none, objs_app0, objs_app, and_true]; first | rfl | exact ⟨rfl, rfl⟩ | exact ⟨rfl, rfl, rfl⟩))) | (with_reducible refine (And.intro (a := keeps _ _ _) ?_ ?_); focus (first | (simp [keeps_cons, keeps_none, objs_app, objs_app0]; done) | (simp only [keeps_cons, keeps_none, objs_app0, objs_app, and_true]; first | rfl | exact ⟨rfl, rfl⟩ | exact ⟨rfl, rfl, rfl⟩))) | (refine both_ways ?_ ?_) | (rw [wrap_i64 (by omega) (by omega)]) | (refine guardV_split (fun h => ?_) (fun h => ?_) <;> (try rw [h]) <;> (try simp at h) <;> (try (exfalso; omega))))
          have hKF := hKF.upd (o' := .cells (at_V b4)) (Nat.le_refl _) hne
          generalize st.set σ.objs.length (.cells (at_V b4)) = st at hKF ⊢
          refine refDigest_c hS fun b5 hS => ?_
          have o0 := hKF.f (σ.objs.length, _) (List.mem_cons_self ..)
          dsimp only at o0
          have hkl := (List.getElem?_eq_some_iff.1 o0).1
          have hi5 : st.objs.length ≠ σ.objs.length := by omega
          have hKF := hKF.push' (o' := .cells (.dig P.2.int.2.text.2.dig.2.text.2.dig.1))
          have oA := hKF.f (σ.objs.length, _) (List.mem_cons_self ..)
          dsimp only at oA
          have hkA := (List.getElem?_eq_some_iff.1 oA).1
          repeat' (first | (simp -dsimp only [↓reduceIte, go_sem, t0, t3, t4, t5, t6, t7, t8, t9, t10, t11, t12, oA, cellAt_setS, hkA]) | (refine arr_intro fun _ => ?_) | (refine later_intro ⟨keeps_nil, ?_⟩) | (refine later_intro ⟨keeps_refl, ?_⟩) | (with_reducible refine keeps_go ?_ ?_; focus (first | (simp [keeps_cons, keeps_none, objs_app, objs_app0]; done) | (simp only [keeps_cons, keeps_none, objs_app0, objs_app, and_true]; first | rfl | exact ⟨rfl, rfl⟩ | exact ⟨rfl, rfl, rfl⟩))) | (with_reducible refine (And.intro (a := keeps _ _ _) ?_ ?_); focus (first | (simp [keeps_cons, keeps_none, objs_app, objs_app0]; done) | (simp only [keeps_cons, keeps_none, objs_app0, objs_app, and_true]; first | rfl | exact ⟨rfl, rfl⟩ | exact ⟨rfl, rfl, rfl⟩))) | (refine both_ways ?_ ?_) | (rw [wrap_i64 (by omega) (by omega)]) | (refine guardV_split (fun h => ?_) (fun h => ?_) <;> (try rw [h]) <;> (try simp at h) <;> (try (exfalso; omega))))
          generalize hI5 : st.objs.length = i5 at hKF hi5 ⊢
          have hne : ∀ x ∈ (i5, AObj.cells (.dig P.2.int.2.text.2.dig.2.text.2.dig.1)) :: _, x.1 ≠ σ.objs.length := List.forall_mem_cons.2 ⟨hi5, hne⟩
          have hKF := hKF.upd (o' := .cells (at_V b5)) (Nat.le_refl _) hne
          generalize (st.app [AObj.cells (.dig P.2.int.2.text.2.dig.2.text.2.dig.1)]).set σ.objs.length (.cells (at_V b5)) = st at hKF ⊢
          have c0 := cellAt_known (hKF.f (σ.objs.length, _) (List.mem_cons_self ..))
          repeat' (first | (simp -dsimp only [↓reduceIte, go_sem, t0, t3, t4, t5, t6, t7, t8, t9, t10, t11, t12, c0]) | (refine arr_intro fun _ => ?_) | (refine later_intro ⟨keeps_nil, ?_⟩) | (refine later_intro ⟨keeps_refl, ?_⟩) | (with_reducible refine keeps_go ?_ ?_; focus (first | (simp [keeps_cons, keeps_none, objs_app, objs_app0]; done) | (simp only [keeps_cons, keeps_none, objs_app0, objs_app, and_true]; first | rfl | exact ⟨rfl, rfl⟩ | exact ⟨rfl, rfl, rfl⟩))) | (with_reducible refine (And.intro (a := keeps _ _ _) ?_ ?_); focus (first | (simp [keeps_cons, keeps_none, objs_app, objs_app0]; done) | (simp only [keeps_cons, keeps_none, objs_app0, objs_app, and_true]; first | rfl | exact ⟨rfl, rfl⟩ | exact ⟨rfl, rfl, rfl⟩))) | (refine both_ways ?_ ?_) | (rw [wrap_i64 (by omega) (by omega)]) | (refine guardV_split (fun h => ?_) (fun h => ?_) <;> (try rw [h]) <;> (try simp at h) <;> (try (exfalso; omega))))
          have c9 := cellAt_known (hKF.f (σ.objs.length + 3, .cells (.dig vD)) (by simp))
          have c17 := cellAt_known (hKF.f (i3, .cells (.dig P.2.int.2.text.2.dig.1)) (by simp))
          have c19 := cellAt_known (hKF.f (i5, .cells (.dig P.2.int.2.text.2.dig.2.text.2.dig.1)) (by simp))
          have o1 := hKF.f (σ.objs.length + 1, .cells (repV .full rep0)) (by simp)
          have o2 := hKF.f (σ.objs.length + 2, .cells (at_V at_0)) (by simp)
          dsimp only at c9 c17 c19 o1 o2
          have l1 := (List.getElem?_eq_some_iff.1 o1).1
          have l2 := (List.getElem?_eq_some_iff.1 o2).1
          have n1 : σ.objs.length + 1 ≠ σ.objs.length + 2 := by omega
          have n2 : σ.objs.length + 2 ≠ σ.objs.length + 1 := by omega
          have n3 : σ.objs.length + 1 ≠ σ.objs.length := by omega
          have n4 : σ.objs.length + 2 ≠ σ.objs.length := by omega
          repeat' (first | (simp -dsimp only [↓reduceIte, go_sem, t0, t3, t4, t5, t6, t7, t8, t9, t10, t11, t12, c9, c17, c19, c0, o1, o2, cellAt_setS, cellAt_setN, objs_setS, objs_setN, length_set, l1, l2, n1, n2, n3, n4]) | (refine arr_intro fun _ => ?_) | (refine later_intro ⟨keeps_nil, ?_⟩) | (refine later_intro ⟨keeps_refl, ?_⟩) | (with_reducible refine keeps_go ?_ ?_; focus (first | (simp [keeps_cons, keeps_none, objs_app, objs_app0]; done) | (simp only [keeps_cons, keeps_none, objs_app0, objs_app, and_true]; first | rfl | exact ⟨rfl, rfl⟩ | exact ⟨rfl, rfl, rfl⟩))) | (with_reducible refine (And.intro (a := keeps _ _ _) ?_ ?_); focus (first | (simp [keeps_cons, keeps_none, objs_app, objs_app0]; done) | (simp only [keeps_cons, keeps_none, objs_app0, objs_app, and_true]; first | rfl | exact ⟨rfl, rfl⟩ | exact ⟨rfl, rfl, rfl⟩))) | (refine both_ways ?_ ?_) | (rw [wrap_i64 (by omega) (by omega)]) | (refine guardV_split (fun h => ?_) (fun h => ?_) <;> (try rw [h]) <;> (try simp at h) <;> (try (exfalso; omega))) | (with_reducible refine awp_drawU (id := 20) (.op 0 2 (.op 1 2 (.op 2 2 (.op 3 2 (.op 4 2 (.op 5 2 (.op 6 2 (.op 7 2 (.op 8 2 (.op 9 2 (.op 10 2 (.op 11 0 (.op 12 1 (.cut (.op 13 1 .nil))))))))))))))) (by kernel_rfl) ?_) | (refine (And.intro (a := keeps _ _ _) ?_ ?_); focus (simp [keeps_cons, keeps_none, objs_setN n3]; done)))
          refine ⟨(hKF.x.set (by omega)).set (by omega), ?_, ?_⟩
          · simp [AV.noRef, AV.noRefs, noRef_at_, repPs, noRefs_pends]
          · simp only [AV.strip, AV.strips, rep_strips, strip_at_]
            exact hK _ _ hS
end Go.Aff.L10

