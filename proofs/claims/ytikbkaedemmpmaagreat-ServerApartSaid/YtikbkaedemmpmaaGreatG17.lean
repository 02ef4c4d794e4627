import Derived.Test.YtikbkaedemmpmaaGreatG16
import Derived.Test.YtikbkaedemmpmaaGreatG10
import Derived.Test.YtikbkaedemmpmaaGreatG9

set_option linter.unusedSimpArgs false
set_option linter.unusedVariables false

namespace Go.Aff.L10
open Go.Proofs Go.Aff Go.Aff.L01 Classical
set_option maxRecDepth 20000
attribute [-go_sem] cellAt_new
attribute [-simp] List.length_flatMap
attribute [local go_sem] Tryz.underlying9 sizes_sub shapes_sub fits_sub zero_sub zt_sub sizes_pend shapes_pend fits_pend zero_pend zt_pend repPs_0 repAt_0 repSet_0 repPs_1 repAt_1 repSet_1 repPs_2 repAt_2 repSet_2 repPs_3 repAt_3 repSet_3 repPs_4 repAt_4 repSet_4 repPs_5 repAt_5 repSet_5 repPs_6 repAt_6 repSet_6 repPs_7 repAt_7 repSet_7 repPs_8 repAt_8 repSet_8 repPs_9 repAt_9 repSet_9 sizes_rep shapes_rep fits_rep zero_rep zt_rep built_rep sizes_blob shapes_blob fits_blob zero_blob zt_blob msgPs_0 msgAt_0 msgSet_0 msgPs_1 msgAt_1 msgSet_1 msgPs_2 msgAt_2 msgSet_2 msgPs_3 msgAt_3 msgSet_3 msgPs_4 msgAt_4 msgSet_4 msgPs_5 msgAt_5 msgSet_5 msgPs_6 msgAt_6 msgSet_6 msgPs_7 msgAt_7 msgSet_7 msgPs_8 msgAt_8 msgSet_8 msgPs_9 msgAt_9 msgSet_9 sizes_msg shapes_msg fits_msg zero_msg zt_msg built_msg Tryz.underlying42 at_Ps_0 at_At_0 at_Set_0 at_Ps_1 at_At_1 at_Set_1 sizes_at_ shapes_at_ fits_at_ zero_at_ zt_at_ built_at_ Tryz.underlying110
attribute [local go_sem] fits3 fits9 fits23 fits26 fits31 fits34 zt23 zero23
attribute [local go_sem] bin_bool_ne appc appn
attribute [local go_sem] msgSet_9s slV_eq
attribute [local go_sem ↓] res_cc
structure KF (σ0 s : AST) (F : List (Nat × AObj)) : Prop where
  x : Ext σ0 s
  f : ∀ x ∈ F, s.objs[x.1]? = some x.2
section
variable {σ0 s : AST} {F G : List (Nat × AObj)}
theorem KF.mono (h : KF σ0 s F) (hg : ∀ x ∈ G, x ∈ F) : KF σ0 s G := ⟨h.x, fun x hx => h.f x (hg x hx)⟩
theorem KF.push {o : AObj} (h : KF σ0 s F) : KF σ0 (s.app [o]) ((s.objs.length, o) :: F) := ⟨h.x.trans (Ext.app _ _), fun x hx => by
  rcases List.mem_cons.1 hx with rfl | hx
  · exact objs_app0
  · exact objs_known_app (h.f x hx) _⟩
theorem KF.push2 {o p : AObj} (h : KF σ0 s F) : KF σ0 (s.app [o, p]) ((s.objs.length, o) :: (s.objs.length + 1, p) :: F) := ⟨h.x.trans (Ext.app _ _), fun x hx => by
  rcases List.mem_cons.1 hx with rfl | hx
  · exact objs_app0
  · rcases List.mem_cons.1 hx with rfl | hx
    · exact objs_app (k := 1)
    · exact objs_known_app (h.f x hx) _⟩
theorem KF.push' {k : Nat} {o o' : AObj} (h : KF σ0 s ((k, o) :: F)) : KF σ0 (s.app [o']) ((k, o) :: (s.objs.length, o') :: F) := h.push.mono (by
  intro x hx
  simp only [List.mem_cons] at hx ⊢
  rcases hx with h | h | h
  · exact .inr (.inl h)
  · exact .inl h
  · exact .inr (.inr h))
theorem KF.upd {k : Nat} {o o' : AObj} (h : KF σ0 s ((k, o) :: F)) (hk : σ0.objs.length ≤ k) (hF : ∀ x ∈ F, x.1 ≠ k) : KF σ0 (s.set k o') ((k, o') :: F) := by
  have h1 := h.f (k, o) (List.mem_cons_self ..)
  have hkl := (List.getElem?_eq_some_iff.1 h1).1
  refine ⟨h.x.set hk, fun x hx => ?_⟩
  rcases List.mem_cons.1 hx with rfl | hx
  · exact objs_setS hkl
  · rw [objs_setN (fun e => hF x hx e.symm)]; exact h.f x (List.mem_cons_of_mem _ hx)
theorem KF.growS {tk : Tk} {n e : Nat} (h : KF σ0 s F) (ht : tkNew σ0 tk) : KF σ0 (Go.Aff.growS s tk n e) F := ⟨h.x.grow ht, fun x hx => by rw [growS_objs]; exact h.f x hx⟩
end
theorem refRep_c {s : List UInt8} {r : Rdr} {a : At} {σ : AST} {K : AV → AST → Prop} (hS : Sim s r a) (hK : ∀ b t, Sim s r.rep.2 b → K (.tuple [repV t r.rep.1, at_V b]) σ) : TCalls Tryz.prog 51 [.str s, at_V a] σ K := by
  refine TCalls.drop ?_
  refine tcalls_walk Tryz.f51 _ [.cell 4 37, .cell 5 110] Tryz.func51 rfl rfl rfl mixed (Nat.le_of_ble_eq_true rfl) rfl fun hlen => ?_
  repeat' (simp -dsimp only [↓reduceIte, go_sem])
  refine refInt_c hS fun b hS => ?_
  repeat' (simp -dsimp only [↓reduceIte, go_sem])
  refine refInt_c hS fun b hS => ?_
  repeat' (simp -dsimp only [↓reduceIte, go_sem])
  refine refStr_c hS fun b hS => ?_
  repeat' (simp -dsimp only [↓reduceIte, go_sem])
  refine refDigest_c hS fun b hS => ?_
  repeat' (simp -dsimp only [↓reduceIte, go_sem])
  refine refInt_c hS fun b hS => ?_
  have e1 : r.rep1.2.1 = r.int.2.int.2.text.2.dig.2.int.1 := rfl
  have e2 : r.rep1.2.2 = if r.int.2.int.2.text.2.dig.2.int.2.e = 0 ∧ ¬ In 0 8 r.int.2.int.2.text.2.dig.2.int.1 then { r.int.2.int.2.text.2.dig.2.int.2 with e := 6 } else r.int.2.int.2.text.2.dig.2.int.2 := rfl
  rw [← e1] at e2 ⊢
  have hre : r.rep = Rdr.rep2 { r.rep1.1 with pending := (Rdr.pends r.rep1.2.1.toNat r.rep1.2.2).1 } (Rdr.pends r.rep1.2.1.toNat r.rep1.2.2).2 := rfl
  have hX : r.rep1.1 = ⟨r.int.1, r.int.2.int.1, r.int.2.int.2.text.1, r.int.2.int.2.text.2.dig.1, [], 0, [], dig0, [], dig0⟩ := rfl
  rw [hre, hX] at hK
  generalize r.rep1.2.1 = n at *
  generalize r.int.2.int.2.text.2.dig.2.int.2 = r2 at *
  generalize r.int.2.int.2.text.2.dig.1 = vD at *
  generalize r.int.2.int.2.text.1 = vT at *
  generalize r.int.2.int.1 = vL at *
  generalize r.int.1 = vN at *
  clear hX e1 hre
  have hn : r.rep1.2.2.e = 0 → 0 ≤ n ∧ n ≤ 8 := fun h0 => by
    by_cases hc : r2.e = 0 ∧ ¬ In 0 8 n
    · rw [if_pos hc] at e2; rw [e2] at h0; simp at h0
    · rw [if_neg hc] at e2; rw [e2] at h0
      exact Classical.byContradiction fun hin => hc ⟨h0, hin⟩
  have hS6 : r2.e = 0 → ¬ In 0 8 n → Sim s r.rep1.2.2 ⟨b.n, 6⟩ := fun h0 h1 => by
    rw [if_pos ⟨h0, h1⟩] at e2; rw [e2]; exact ⟨hS.q, rfl, fun h => by simp at h, hS.l⟩
  have hS0 : ¬ (r2.e = 0 ∧ ¬ In 0 8 n) → Sim s r.rep1.2.2 b := fun h0 => by
    rw [if_neg h0] at e2; rw [e2]; exact hS
  have hbe := hS.e
  repeat' (first | (simp -dsimp only [↓reduceIte, go_sem]) | (refine guardV_split (fun h => ?_) (fun h => ?_) <;> (try rw [h]) <;> (try simp at h) <;> (try (exfalso; omega))) | (refine Within_c ?_))
  all_goals
    first
      | (have hS3 := hS6 (by rw [← hbe]; assumption) (by assumption)
         generalize (⟨b.n, 6⟩ : At) = b3 at hS3 ⊢)
      | (have hS3 := hS0 (by rw [← hbe]; simp_all)
         generalize b = b3 at hS3 ⊢)
    clear hS6 hS0 e2
    generalize r.rep1.2.2 = r3 at *
    have hKF : KF σ (σ.app [.cells (at_V b3), .cells (repV .full rep0), .cells (at_V at_0), .cells (.dig vD)]) [(σ.objs.length, .cells (at_V b3)), (σ.objs.length + 1, .cells (repV .full rep0)), (σ.objs.length + 2, .cells (at_V at_0)), (σ.objs.length + 3, .cells (.dig vD))] := by
      refine ⟨Ext.app _ _, fun x hx => ?_⟩
      simp only [List.mem_cons, List.not_mem_nil, or_false] at hx
      rcases hx with rfl | rfl | rfl | rfl <;> simp [AST.app]
    generalize hP : Rdr.pends n.toNat r3 = P at hK
    refine awp_rounds (fun (x : Nat × List Pend × Rdr × At) τ st => ∃ tk, KF σ st [(σ.objs.length, .cells (at_V x.2.2.2)), (σ.objs.length + 1, .cells (repV .full rep0)), (σ.objs.length + 2, .cells (at_V at_0)), (σ.objs.length + 3, .cells (.dig vD))] ∧ Sim s x.2.2.1 x.2.2.2 ∧ tkNew σ tk ∧ canApp st tk x.2.1.length 68 ∧ (x.2.2.1.e = 0 → 0 ≤ n ∧ n ≤ 8) ∧ x.2.1.length ≤ x.1 ∧ x.1 ≤ n.toNat ∧
      x.2.1 ++ (Rdr.pends (n.toNat - x.1) x.2.2.1).1 = P.1 ∧ (Rdr.pends (n.toNat - x.1) x.2.2.1).2 = P.2 ∧ τ 0 = .str s ∧ τ 3 = .ptr (some (σ.objs.length, [])) ∧ τ 4 = .ptr (some (σ.objs.length + 1, [])) ∧ τ 5 = .ptr (some (σ.objs.length + 2, [])) ∧ τ 6 = .int .i64 vN ∧ τ 7 = .int .i64 vL ∧ τ 8 = .str vT ∧ τ 9 = .ptr (some (σ.objs.length + 3, [])) ∧ τ 10 = .int .i64 n ∧ τ 11 = .slice tk (x.2.1.map pendV) ∧ τ 12 = .int .i64 x.1) (fun x => n.toNat - x.1) (0, [], r3, b3) ?_ ?_
    · refine ⟨.full, hKF, hS3, .inl rfl, trivial, hn, by simp, by simp, ?_, ?_, ?_, ?_, ?_, ?_, ?_, ?_, ?_, ?_, ?_, ?_, ?_⟩ <;> (try simp only [go_sem]) <;> (try rfl) <;> simp [hP]
    · clear hKF hS3 hn
      rintro ⟨i, acc, r', b'⟩ τ st ⟨tk, hKF, hS, htk, hca, hn, hal, hi, hP1, hP2, t0, t3, t4, t5, t6, t7, t8, t9, t10, t11, t12⟩
      dsimp only at hKF hS hca hn hal hi hP1 hP2 t11 t12 ⊢
      have o0 := hKF.f (σ.objs.length, .cells (at_V b')) (by simp)
      dsimp only at o0
      have c0 := cellAt_known o0
      have hse := hS.e
      have hne : ∀ x ∈ [(σ.objs.length + 1, AObj.cells (repV .full rep0)), (σ.objs.length + 2, .cells (at_V at_0)), (σ.objs.length + 3, .cells (.dig vD))], x.1 ≠ σ.objs.length := by
        intro x hx
        simp only [List.mem_cons, List.not_mem_nil, or_false] at hx
        rcases hx with rfl | rfl | rfl <;> simp
      by_cases hgo : (i : Int) < n ∧ r'.e = 0
      · obtain ⟨hlt0, he⟩ := hgo
        have hn8 := hn he
        have hn2 : ∀ {q : Prop}, q → 0 ≤ n ∧ n ≤ 8 := fun _ => hn8
        rw [he] at hse
        repeat' (first | (simp -dsimp only [↓reduceIte, go_sem, t0, t3, t4, t5, t10, t11, t12, c0, hse]) | (refine guardV_split (fun h => ?_) (fun h => ?_) <;> (try rw [h]) <;> (try simp at h) <;> (try (exfalso; omega))))
        refine refOne_c hS fun b2 hS2 => ?_
        have hpd : Rdr.pends (n.toNat - i) r' = (r'.pend.1 :: (Rdr.pends (n.toNat - (i + 1)) r'.pend.2).1, (Rdr.pends (n.toNat - (i + 1)) r'.pend.2).2) := by
          rw [show n.toNat - i = (n.toNat - (i + 1)) + 1 by omega, Rdr.pends, if_neg (by simp [he])]
        rw [hpd] at hP1 hP2
        generalize r'.pend.1 = p at *
        generalize r'.pend.2 = r4 at *
        repeat' (first | (simp -dsimp only [↓reduceIte, go_sem, t0, t3, t4, t5, t10, t11, t12]) | (refine build_slice E26 rfl (by decide) (by intro v hv; simp at hv; subst hv; simp [go_sem]) ?_) | (refine append_pend (by rw [canApp_app]; exact hca) (by omega) ?_))
        have hG : KF σ (growS (st.app [.cells (pendV p), .cells (at_V b2)]) tk (acc.length + 1) 68) [(σ.objs.length, .cells (at_V b')), (σ.objs.length + 1, .cells (repV .full rep0)), (σ.objs.length + 2, .cells (at_V at_0)), (σ.objs.length + 3, .cells (.dig vD))] := (hKF.push2.mono (by simp +contextual)).growS htk
        have og := hG.f (σ.objs.length, .cells (at_V b')) (by simp)
        dsimp only at og
        repeat' (first | (simp -dsimp only [↓reduceIte, go_sem, t0, t3, t4, t5, t10, t11, t12, og]) | (rw [wrap_i64 (by omega) (by omega)]))
        refine later_intro ⟨(i + 1, acc ++ [p], r4, b2), by dsimp only; omega, growT st tk, ?_, hS2, ?_, ?_, hn2, ?_, ?_, ?_, ?_, ?_, ?_, ?_, ?_, ?_, ?_, ?_, ?_, ?_, ?_, ?_⟩ <;> (try simp only [go_sem, t0, t3, t4, t5, t6, t7, t8, t9, t10, t11, t12]) <;> (try rfl)
        · exact hG.upd (Nat.le_refl _) hne
        · exact htk.grow hKF.x
        · rw [canApp_set]; simp only [List.length_append, List.length_cons, List.length_nil]
          have h9 := canApp_grow (es := 68) (n := acc.length + 1) (show canApp (st.app [.cells (pendV p), .cells (at_V b2)]) tk acc.length 68 by rw [canApp_app]; exact hca)
          rw [growT_app] at h9; exact h9
        · simp; omega
        · omega
        · rw [← hP1]; simp
        · exact hP2
      · have hz : Rdr.pends (n.toNat - i) r' = ([], r') := by
          by_cases he : r'.e = 0
          · rw [show n.toNat - i = 0 by omega]; rfl
          · exact pends_err he
        rw [hz] at hP1 hP2
        dsimp only at hP1 hP2
        rw [List.append_nil] at hP1
        subst hP1 hP2
        have hg2 : (i : Int) < n → ¬ b'.e = 0 := fun h1 h2 => hgo ⟨h1, by rw [← hse]; exact h2⟩
        repeat' (first | (simp -dsimp only [↓reduceIte, go_sem, t0, t3, t4, t5, t10, t11, t12, c0, hg2]) | (refine guardV_split (fun h => ?_) (fun h => ?_) <;> (try rw [h]) <;> (try simp at h) <;> (try (exfalso; omega))))
        all_goals
          refine refInt_c hS fun b1 hS => ?_
          have o0 := hKF.f (σ.objs.length, _) (List.mem_cons_self ..)
          dsimp only at o0
          have hkl := (List.getElem?_eq_some_iff.1 o0).1
          repeat' (simp -dsimp only [↓reduceIte, go_sem, t0, t3, t4, t5, t6, t7, t8, t9, t10, t11, t12, o0, cellAt_setS, hkl])
          have hKF := hKF.upd (o' := .cells (at_V b1)) (Nat.le_refl _) hne
          generalize st.set σ.objs.length (.cells (at_V b1)) = st at hKF ⊢
          refine refStr_c hS fun b2 hS => ?_
          have o0 := hKF.f (σ.objs.length, _) (List.mem_cons_self ..)
          dsimp only at o0
          have hkl := (List.getElem?_eq_some_iff.1 o0).1
          repeat' (simp -dsimp only [↓reduceIte, go_sem, t0, t3, t4, t5, t6, t7, t8, t9, t10, t11, t12, o0, cellAt_setS, hkl])
          have hKF := hKF.upd (o' := .cells (at_V b2)) (Nat.le_refl _) hne
          generalize st.set σ.objs.length (.cells (at_V b2)) = st at hKF ⊢
          refine refDigest_c hS fun b3 hS => ?_
          have o0 := hKF.f (σ.objs.length, _) (List.mem_cons_self ..)
          dsimp only at o0
          have hkl := (List.getElem?_eq_some_iff.1 o0).1
          have hi3 : st.objs.length ≠ σ.objs.length := by omega
          have hKF := hKF.push' (o' := .cells (.dig P.2.int.2.text.2.dig.1))
          have oA := hKF.f (σ.objs.length, _) (List.mem_cons_self ..)
          dsimp only at oA
          have hkA := (List.getElem?_eq_some_iff.1 oA).1
          repeat' (simp -dsimp only [↓reduceIte, go_sem, t0, t3, t4, t5, t6, t7, t8, t9, t10, t11, t12, oA, cellAt_setS, hkA])
          generalize hI3 : st.objs.length = i3 at hKF hi3 ⊢
          have hne : ∀ x ∈ (i3, AObj.cells (.dig P.2.int.2.text.2.dig.1)) :: _, x.1 ≠ σ.objs.length := List.forall_mem_cons.2 ⟨hi3, hne⟩
          have hKF := hKF.upd (o' := .cells (at_V b3)) (Nat.le_refl _) hne
          generalize (st.app [AObj.cells (.dig P.2.int.2.text.2.dig.1)]).set σ.objs.length (.cells (at_V b3)) = st at hKF ⊢
          have c0 := cellAt_known (hKF.f (σ.objs.length, _) (List.mem_cons_self ..))
          repeat' (simp -dsimp only [↓reduceIte, go_sem, t0, t3, t4, t5, t6, t7, t8, t9, t10, t11, t12, c0])
          refine refStr_c hS fun b4 hS => ?_
          have o0 := hKF.f (σ.objs.length, _) (List.mem_cons_self ..)
          dsimp only at o0
          have hkl := (List.getElem?_eq_some_iff.1 o0).1
          repeat' (simp -dsimp only [↓reduceIte, go_sem, t0, t3, t4, t5, t6, t7, t8, t9, t10, t11, t12, o0, cellAt_setS, hkl])
          have hKF := hKF.upd (o' := .cells (at_V b4)) (Nat.le_refl _) hne
          generalize st.set σ.objs.length (.cells (at_V b4)) = st at hKF ⊢
          refine refDigest_c hS fun b5 hS => ?_
          have o0 := hKF.f (σ.objs.length, _) (List.mem_cons_self ..)
          dsimp only at o0
          have hkl := (List.getElem?_eq_some_iff.1 o0).1
          have hi5 : st.objs.length ≠ σ.objs.length := by omega
          have hKF := hKF.push' (o' := .cells (.dig P.2.int.2.text.2.dig.2.text.2.dig.1))
          have oA := hKF.f (σ.objs.length, _) (List.mem_cons_self ..)
          dsimp only at oA
          have hkA := (List.getElem?_eq_some_iff.1 oA).1
          repeat' (simp -dsimp only [↓reduceIte, go_sem, t0, t3, t4, t5, t6, t7, t8, t9, t10, t11, t12, oA, cellAt_setS, hkA])
          generalize hI5 : st.objs.length = i5 at hKF hi5 ⊢
          have hne : ∀ x ∈ (i5, AObj.cells (.dig P.2.int.2.text.2.dig.2.text.2.dig.1)) :: _, x.1 ≠ σ.objs.length := List.forall_mem_cons.2 ⟨hi5, hne⟩
          have hKF := hKF.upd (o' := .cells (at_V b5)) (Nat.le_refl _) hne
          generalize (st.app [AObj.cells (.dig P.2.int.2.text.2.dig.2.text.2.dig.1)]).set σ.objs.length (.cells (at_V b5)) = st at hKF ⊢
          have c0 := cellAt_known (hKF.f (σ.objs.length, _) (List.mem_cons_self ..))
          repeat' (fail)
          have c9 := cellAt_known (hKF.f (σ.objs.length + 3, .cells (.dig vD)) (by simp))
          have c17 := cellAt_known (hKF.f (i3, .cells (.dig P.2.int.2.text.2.dig.1)) (by simp))
          have c19 := cellAt_known (hKF.f (i5, .cells (.dig P.2.int.2.text.2.dig.2.text.2.dig.1)) (by simp))
          have o1 := hKF.f (σ.objs.length + 1, .cells (repV .full rep0)) (by simp)
          have o2 := hKF.f (σ.objs.length + 2, .cells (at_V at_0)) (by simp)
          dsimp only at c9 c17 c19 o1 o2
          have l1 := (List.getElem?_eq_some_iff.1 o1).1
          have l2 := (List.getElem?_eq_some_iff.1 o2).1
          have n1 : σ.objs.length + 1 ≠ σ.objs.length + 2 := by omega
          have n2 : σ.objs.length + 2 ≠ σ.objs.length + 1 := by omega
          have n3 : σ.objs.length + 1 ≠ σ.objs.length := by omega
          have n4 : σ.objs.length + 2 ≠ σ.objs.length := by omega
          repeat' (first | (simp -dsimp only [↓reduceIte, go_sem, t0, t3, t4, t5, t6, t7, t8, t9, t10, t11, t12, c9, c17, c19, c0, o1, o2, cellAt_setS, cellAt_setN, objs_setS, objs_setN, length_set, l1, l2, n1, n2, n3, n4]) | (refine later_intro ⟨keeps_nil, ?_⟩) | (with_reducible refine awp_drawU (id := 20) (.op 0 2 (.op 1 2 (.op 2 2 (.op 3 2 (.op 4 2 (.op 5 2 (.op 6 2 (.op 7 2 (.op 8 2 (.op 9 2 (.op 10 2 (.op 11 0 (.op 12 1 (.cut (.op 13 1 .nil))))))))))))))) (by kernel_rfl) ?_) | (refine (And.intro (a := keeps _ _ _) ?_ ?_); focus (simp [keeps_cons, keeps_none, objs_setN n3]; done)))
          refine ⟨(hKF.x.set (by omega)).set (by omega), ?_, ?_⟩
          · simp [AV.noRef, AV.noRefs, noRef_at_, repPs, noRefs_pends]
          · simp only [AV.strip, AV.strips, rep_strips, strip_at_]
            exact hK _ _ hS
theorem refRest_c {s : List UInt8} {r : Rdr} {a : At} {n c : Int} (hk : n = 3 ∨ n = 5 ∨ n = 7 ∨ n = 8 ∨ n = 10 ∨ n = 11 ∨ (¬ n = 1 ∧ ¬ n = 2 ∧ ¬ n = 3 ∧ ¬ n = 4 ∧ ¬ n = 6 ∧ ¬ n = 5 ∧ ¬ n = 7 ∧ ¬ n = 8 ∧ ¬ n = 10 ∧ ¬ n = 11)) {σ : AST} {K : AV → AST → Prop} (hS : Sim s r a)
    (hK : ∀ b t u, Sim s (r.fields (getM n c)).2 b → K (.tuple [msgV t u (r.fields (getM n c)).1, at_V b]) σ) : TCalls Tryz.prog 53 [.str s, msgV .full .full (getM n c), at_V a] σ K := by
  refine TCalls.drop ?_
  have fin : ∀ (l : List AObj) (m : Msg) (b : At) (t u : Tk), m = (r.fields (getM n c)).1 → Sim s (r.fields (getM n c)).2 b → Ext σ (σ.app l) ∧ (AV.tuple [msgV t u m, at_V b]).noRef = true ∧ K (AV.tuple [msgV t u m, at_V b]).strip σ := fun l m b t u h1 h2 => by
    subst h1
    refine ⟨Ext.app _ _, ?_, ?_⟩
    · simp [AV.noRef, AV.noRefs, msgPs, repPs, subPs, blobPs, noRefs_pends, noRefs_ints, noRef_at_]
    · simp only [AV.strip, AV.strips, msg_strips, strip_at_]; exact hK b _ _ h2
  clear hK
  have hkk : (getM n c).kind = n := rfl
  refine tcalls_walk Tryz.f53 _ [.cell 6 42, .cell 7 110] Tryz.func53 rfl rfl rfl mixed (Nat.le_of_ble_eq_true rfl) rfl fun hlen => ?_
  simp -dsimp only [↓reduceIte, go_sem]
  rcases hk with hq | hq | hq | hq | hq | hq | hq
  · subst hq
    repeat' (simp -dsimp only [↓reduceIte, go_sem, hkk])
    refine refStr_c hS fun b hS => ?_
    repeat' (simp -dsimp only [↓reduceIte, go_sem])
    refine refDigest_c hS fun b hS => ?_
    repeat' (first | (simp -dsimp only [↓reduceIte, go_sem]) | (refine later_intro ⟨keeps_nil, ?_⟩) | (with_reducible refine keeps_go ?_ ?_; focus (first | (simp [keeps_cons, keeps_none, objs_app, objs_app0]; done) | fail)) | (with_reducible refine awp_drawU (id := 7) (.op 0 2 (.op 1 0 (.op 2 1 (.cut (.op 3 1 .nil))))) (by kernel_rfl) ?_) | fail)
    exact fin _ _ _ _ _ (by simp [Rdr.fields, getM]) (by simpa [Rdr.fields, getM] using hS)
  · subst hq
    have hse := hS.e
    have hl := hS.l
    by_cases he : r.e = 0
    · rw [he] at hse
      obtain ⟨p1, p2, p3⟩ := hS.p he
      have e : r.ints = ((intsR s a.n).1, { r with at_ := (intsR s a.n).2.1, e := (intsR s a.n).2.2 }) := by rw [Rdr.ints, if_neg (by simp [he])]; rw [hS.q, p1]
      repeat' (first | (simp -dsimp only [↓reduceIte, go_sem, hkk, hse]) | (refine L01.ReadNumbers_c (by omega) (by omega) ?_) | (rw [tupL_slV]) | fail)
      have hb : Sim s r.ints.2 ⟨(intsR s a.n).2.1, (intsR s a.n).2.2⟩ := by
        rw [e]
        exact ⟨hS.q, rfl, fun h0 => by have : a.n < (intsR s a.n).2.1 ∧ (intsR s a.n).2.1 ≤ s.length := readR_prog h0; exact ⟨rfl, by dsimp only; omega, by dsimp only; omega⟩, hl⟩
      exact fin _ _ ⟨(intsR s a.n).2.1, (intsR s a.n).2.2⟩ _ _ (by simp [Rdr.fields, getM, e]) (by simpa [Rdr.fields, getM] using hb)
    · have hse : ¬ a.e = 0 := by rw [hse]; exact he
      have e : r.ints = ([], r) := by rw [Rdr.ints, if_pos he]
      repeat' (first | (simp -dsimp only [↓reduceIte, go_sem, hkk, hse]) | (refine later_intro ⟨keeps_nil, ?_⟩) | (with_reducible refine keeps_go ?_ ?_; focus (first | (simp [keeps_cons, keeps_none, objs_app, objs_app0]; done) | fail)) | (refine guardV_split (fun h => ?_) (fun h => ?_) <;> (try rw [h]) <;> (try simp at h) <;> (try (exfalso; omega))) | (with_reducible refine awp_drawU (id := 12) (.op 0 2 (.op 1 0 (.op 2 1 (.cut (.op 3 1 .nil))))) (by kernel_rfl) ?_) | fail)
      exact fin _ _ a _ _ (by simp [Rdr.fields, getM, e]) (by simpa [Rdr.fields, getM, e] using hS)
  · subst hq
    have hse := hS.e
    have hl := hS.l
    by_cases he : r.e = 0
    · rw [he] at hse
      obtain ⟨p1, p2, p3⟩ := hS.p he
      have e : r.ints = ((intsR s a.n).1, { r with at_ := (intsR s a.n).2.1, e := (intsR s a.n).2.2 }) := by rw [Rdr.ints, if_neg (by simp [he])]; rw [hS.q, p1]
      repeat' (first | (simp -dsimp only [↓reduceIte, go_sem, hkk, hse]) | (refine L01.ReadNumbers_c (by omega) (by omega) ?_) | (rw [tupL_slV]) | fail)
      have hb : Sim s r.ints.2 ⟨(intsR s a.n).2.1, (intsR s a.n).2.2⟩ := by
        rw [e]
        exact ⟨hS.q, rfl, fun h0 => by have : a.n < (intsR s a.n).2.1 ∧ (intsR s a.n).2.1 ≤ s.length := readR_prog h0; exact ⟨rfl, by dsimp only; omega, by dsimp only; omega⟩, hl⟩
      exact fin _ _ ⟨(intsR s a.n).2.1, (intsR s a.n).2.2⟩ _ _ (by simp [Rdr.fields, getM, e]) (by simpa [Rdr.fields, getM] using hb)
    · have hse : ¬ a.e = 0 := by rw [hse]; exact he
      have e : r.ints = ([], r) := by rw [Rdr.ints, if_pos he]
      repeat' (first | (simp -dsimp only [↓reduceIte, go_sem, hkk, hse]) | (refine later_intro ⟨keeps_nil, ?_⟩) | (with_reducible refine keeps_go ?_ ?_; focus (first | (simp [keeps_cons, keeps_none, objs_app, objs_app0]; done) | fail)) | (refine guardV_split (fun h => ?_) (fun h => ?_) <;> (try rw [h]) <;> (try simp at h) <;> (try (exfalso; omega))) | (with_reducible refine awp_drawU (id := 12) (.op 0 2 (.op 1 0 (.op 2 1 (.cut (.op 3 1 .nil))))) (by kernel_rfl) ?_) | fail)
      exact fin _ _ a _ _ (by simp [Rdr.fields, getM, e]) (by simpa [Rdr.fields, getM, e] using hS)
  · subst hq
    have hse := hS.e
    have hl := hS.l
    by_cases he : r.e = 0
    · rw [he] at hse
      obtain ⟨p1, p2, p3⟩ := hS.p he
      have e : r.ints = ((intsR s a.n).1, { r with at_ := (intsR s a.n).2.1, e := (intsR s a.n).2.2 }) := by rw [Rdr.ints, if_neg (by simp [he])]; rw [hS.q, p1]
      repeat' (first | (simp -dsimp only [↓reduceIte, go_sem, hkk, hse]) | (refine L01.ReadNumbers_c (by omega) (by omega) ?_) | (rw [tupL_slV]) | fail)
      have hb : Sim s r.ints.2 ⟨(intsR s a.n).2.1, (intsR s a.n).2.2⟩ := by
        rw [e]
        exact ⟨hS.q, rfl, fun h0 => by have : a.n < (intsR s a.n).2.1 ∧ (intsR s a.n).2.1 ≤ s.length := readR_prog h0; exact ⟨rfl, by dsimp only; omega, by dsimp only; omega⟩, hl⟩
      exact fin _ _ ⟨(intsR s a.n).2.1, (intsR s a.n).2.2⟩ _ _ (by simp [Rdr.fields, getM, e]) (by simpa [Rdr.fields, getM] using hb)
    · have hse : ¬ a.e = 0 := by rw [hse]; exact he
      have e : r.ints = ([], r) := by rw [Rdr.ints, if_pos he]
      repeat' (first | (simp -dsimp only [↓reduceIte, go_sem, hkk, hse]) | (refine later_intro ⟨keeps_nil, ?_⟩) | (with_reducible refine keeps_go ?_ ?_; focus (first | (simp [keeps_cons, keeps_none, objs_app, objs_app0]; done) | fail)) | (refine guardV_split (fun h => ?_) (fun h => ?_) <;> (try rw [h]) <;> (try simp at h) <;> (try (exfalso; omega))) | (with_reducible refine awp_drawU (id := 12) (.op 0 2 (.op 1 0 (.op 2 1 (.cut (.op 3 1 .nil))))) (by kernel_rfl) ?_) | fail)
      exact fin _ _ a _ _ (by simp [Rdr.fields, getM, e]) (by simpa [Rdr.fields, getM, e] using hS)
  · subst hq
    repeat' (simp -dsimp only [↓reduceIte, go_sem, hkk])
    refine refInt_c hS fun b hS => ?_
    repeat' (simp -dsimp only [↓reduceIte, go_sem])
    refine refStr_c hS fun b hS => ?_
    repeat' (simp -dsimp only [↓reduceIte, go_sem])
    refine refDigest_c hS fun b hS => ?_
    repeat' (simp -dsimp only [↓reduceIte, go_sem])
    refine refDigest_c hS fun b hS => ?_
    repeat' (first | (simp -dsimp only [↓reduceIte, go_sem]) | (refine later_intro ⟨keeps_nil, ?_⟩) | (with_reducible refine keeps_go ?_ ?_; focus (first | (simp [keeps_cons, keeps_none, objs_app, objs_app0]; done) | fail)) | (with_reducible refine awp_drawU (id := 25) (.op 0 2 (.op 1 0 (.op 2 1 (.cut (.op 3 1 .nil))))) (by kernel_rfl) ?_) | fail)
    exact fin _ _ _ _ _ (by simp [Rdr.fields, getM]) (by simpa [Rdr.fields, getM] using hS)
  · subst hq
    repeat' (simp -dsimp only [↓reduceIte, go_sem, hkk])
    refine refDigest_c hS fun b hS => ?_
    repeat' (first | (simp -dsimp only [↓reduceIte, go_sem]) | (refine later_intro ⟨keeps_nil, ?_⟩) | (with_reducible refine keeps_go ?_ ?_; focus (first | (simp [keeps_cons, keeps_none, objs_app, objs_app0]; done) | fail)) | (with_reducible refine awp_drawU (id := 29) (.op 0 2 (.op 1 0 (.op 2 1 (.cut (.op 3 1 .nil))))) (by kernel_rfl) ?_) | fail)
    exact fin _ _ _ _ _ (by simp [Rdr.fields, getM]) (by simpa [Rdr.fields, getM] using hS)
  · repeat' (first | (simp -dsimp only [↓reduceIte, go_sem, hkk, hq]) | (refine later_intro ⟨keeps_nil, ?_⟩) | (with_reducible refine keeps_go ?_ ?_; focus (first | (simp [keeps_cons, keeps_none, objs_app, objs_app0]; done) | fail)) | (refine guardV_split (fun h => ?_) (fun h => ?_) <;> (try rw [h]) <;> (try simp at h) <;> (try (exfalso; omega))) | (with_reducible refine awp_drawU (id := 30) (.op 0 2 (.op 1 0 (.op 2 1 (.cut (.op 3 1 .nil))))) (by kernel_rfl) ?_) | fail)
    exact fin _ _ a _ _ (by simp [Rdr.fields, getM, hq]) (by simpa [Rdr.fields, getM, hq] using hS)
theorem rng0 : Rng 0 := ⟨by decide, by decide⟩
theorem numT_rng {s : List UInt8} {low : Bool} {q most : Nat} (hm : most ≤ 9223372036854775808) (hl : low = false → most ≤ 9223372036854775807) : Rng (numT s low q most).1 := by
  unfold numT
  split
  · exact rng0
  · split
    · exact rng0
    · split
      · exact rng0
      · rename_i h
        cases low
        · have := hl rfl
          refine ⟨?_, ?_⟩ <;> simp <;> omega
        · refine ⟨?_, ?_⟩ <;> simp <;> omega
theorem numR_rng {s : List UInt8} {i : Int} : Rng (numR s i).1 := by
  unfold numR
  split
  · exact rng0
  · unfold numP
    refine numT_rng ?_ ?_
    · split <;> omega
    · intro h; rw [h]; simp
theorem int_rng {r : Rdr} : Rng r.int.1 := by
  unfold Rdr.int
  split
  · exact rng0
  · exact numR_rng
theorem fields_out {r : Rdr} {n c : Int} (h : ¬ (1 ≤ n ∧ n ≤ 11)) : r.fields (getM n c) = (getM n c, r) := by
  have e : (getM n c).kind = n := rfl
  unfold Rdr.fields
  rw [e, if_neg (by omega), if_neg (by omega), if_neg (by omega), if_neg (by omega), if_neg (by omega), if_neg (by omega), if_neg (by omega)]
theorem fields_by {r : Rdr} {n c : Int} : Rng (r.fields (getM n c)).1.by_ := by
  have h0 : Rng 0 := ⟨by decide, by decide⟩
  unfold Rdr.fields
  repeat' split
  all_goals first | exact h0 | exact int_rng
theorem refGet_c {l : List UInt8} {σ : AST} {K : AV → AST → Prop} (hK : ∀ t u, K (.tuple [msgV t u (getR l).1, .int .i64 (getR l).2]) σ) : TCalls Tryz.prog 21 [.str l] σ K := by
  refine TCalls.drop ?_
  refine tcalls_walk Tryz.f21 _ [.cell 2 42, .tmp 3] Tryz.func21 rfl rfl rfl mixed (Nat.le_of_ble_eq_true rfl) rfl fun hlen => ?_
  have hll : l.length ≤ 9223372036854775807 := hlen (.str l) (by simp)
  have hS : Sim l ⟨l, 0, 0⟩ at_0 := ⟨rfl, rfl, fun _ => ⟨rfl, by simp, by simp⟩, hll⟩
  repeat' (simp -dsimp only [↓reduceIte, go_sem])
  refine refInt_c hS fun b hS => ?_
  have hA : getA l = ((Rdr.mk l 0 0).int.1, if (Rdr.mk l 0 0).int.2.e = 0 ∧ ¬ In 1 11 (Rdr.mk l 0 0).int.1 then { (Rdr.mk l 0 0).int.2 with e := 6 } else (Rdr.mk l 0 0).int.2) := rfl
  generalize (Rdr.mk l 0 0).int = A at *
  obtain ⟨n, r1⟩ := A
  dsimp only at hA hS ⊢
  have hse := hS.e
  have fin : ∀ (v : AV) (s : AST) (t u : Tk), Ext σ s → v = .tuple [msgV t u (getR l).1, .int .i64 (getR l).2] → Ext σ s ∧ v.noRef = true ∧ K v.strip σ := fun v s t u hx hv => by
    subst hv
    refine ⟨hx, ?_, ?_⟩
    · simp [AV.noRef, AV.noRefs, msgPs, repPs, subPs, blobPs, noRefs_pends, noRefs_ints]
    · simp only [AV.strip, AV.strips, msg_strips]; exact hK _ _
  clear hK
  by_cases hbad : r1.e = 0 ∧ ¬ In 1 11 n
  · rw [if_pos hbad] at hA
    have hnn : ¬ (1 ≤ n ∧ n ≤ 11) := hbad.2
    have hg : getR l = (msg0, 6) := by
      have hB : getB (getA l) = (0, { r1 with e := 6 }) := by
        rw [hA]; unfold getB; rw [if_neg (by dsimp only; omega)]; simp [Rdr.int]
      have hC : (getC l).2 = { r1 with e := 6 } := by
        simp only [getC, hB]
        rw [hA]
        simp only [fields_out hnn]
      simp [getR, hC]
    rw [hg] at fin
    have h1 := hbad.1
    have h2 := hbad.2
    rw [h1] at hse
    repeat' (first | (simp -dsimp only [↓reduceIte, go_sem, hse, h2]) | (refine Within_c ?_))
    exact fin _ _ .full .full (Ext.app _ _) rfl
  · rw [if_neg hbad] at hA
    have hgo : r1.e = 0 → In 1 11 n := fun h0 => Classical.byContradiction fun h1 => hbad ⟨h0, h1⟩
    have hbs : b.e = 0 → In 1 11 n := fun h0 => hgo (by rw [← hse]; exact h0)
    by_cases h246 : n = 2 ∨ n = 4 ∨ n = 6
    · have hB : getB (getA l) = (0, r1) := by rw [hA]; unfold getB; rw [if_pos h246]
      have hC : getC l = r1.fields (getM n 0) := by simp only [getC, hB]; rw [hA]
      rcases h246 with hq | hq | hq
      · subst hq
        repeat' (first | (simp -dsimp only [↓reduceIte, go_sem]) | (refine guardV_split (fun h => ?_) (fun h => ?_) <;> (try rw [h]) <;> (try simp at h) <;> (try (exfalso; omega))) | (refine Within_c ?_))
        all_goals first
          | (exfalso; exact absurd (hbs (by assumption)) (by assumption))
          | skip
        all_goals
          refine refRep_c hS fun b3 t3 hS => ?_
          have e3 : getC l = (⟨2, msg0.client, msg0.sub, r1.rep.1, msg0.view, msg0.by_, msg0.tag, msg0.own, msg0.blob, msg0.nums⟩, r1.rep.2) := by rw [hC]; simp [Rdr.fields, getM, msg0]
          have hse3 := hS.e
          by_cases he3 : (r1.rep.2).e = 0
          · rw [he3] at hse3
            obtain ⟨p1, p2, p3⟩ := hS.p he3
            by_cases hat : (r1.rep.2).at_ < l.length
            · have e4 : getR l = (msg0, 6) := by simp only [getR, e3]; simp [he3, hat]
              rw [e4] at fin
              rw [← p1] at hat
              repeat' (first | (simp -dsimp only [↓reduceIte, go_sem, hse3, hat]) | (refine arr_intro fun _ => ?_))
              exact fin _ _ .full .full (Ext.app _ _) rfl
            · by_cases hm : (⟨2, msg0.client, msg0.sub, r1.rep.1, msg0.view, msg0.by_, msg0.tag, msg0.own, msg0.blob, msg0.nums⟩ : Msg).Ok
              · have e4 : getR l = (⟨2, msg0.client, msg0.sub, r1.rep.1, msg0.view, msg0.by_, msg0.tag, msg0.own, msg0.blob, msg0.nums⟩, 0) := by simp only [getR, e3]; simp [he3, hat, hm]
                rw [e4] at fin
                rw [← p1] at hat
                repeat' (first | (simp -dsimp only [↓reduceIte, go_sem, hse3, hat, hm]) | (refine arr_intro fun _ => ?_) | (refine refRight_c (m := ⟨2, msg0.client, msg0.sub, r1.rep.1, msg0.view, msg0.by_, msg0.tag, msg0.own, msg0.blob, msg0.nums⟩) rng0 ?_))
                exact fin _ _ t3 .full (Ext.app _ _) rfl
              · have e4 : getR l = (msg0, 6) := by simp only [getR, e3]; simp [he3, hat, hm]
                rw [e4] at fin
                rw [← p1] at hat
                repeat' (first | (simp -dsimp only [↓reduceIte, go_sem, hse3, hat, hm]) | (refine arr_intro fun _ => ?_) | (refine refRight_c (m := ⟨2, msg0.client, msg0.sub, r1.rep.1, msg0.view, msg0.by_, msg0.tag, msg0.own, msg0.blob, msg0.nums⟩) rng0 ?_))
                exact fin _ _ .full .full (Ext.app _ _) rfl
          · have e4 : getR l = (msg0, (r1.rep.2).e) := by simp only [getR, e3]; simp [he3]
            rw [e4, ← hse3] at fin
            rw [← hse3] at he3
            repeat' (first | (simp -dsimp only [↓reduceIte, go_sem, he3]) | (refine later_intro ⟨keeps_refl, ?_⟩) | (refine guardV_split (fun h => ?_) (fun h => ?_) <;> (try rw [h]) <;> (try simp at h) <;> (try (exfalso; omega))) | (with_reducible refine awp_drawT (id := 27) (.op 0 2 (.op 1 0 (.op 2 0 (.op 3 1 (.op 4 2 .nil))))) (by kernel_rfl) ?_))
            exact fin _ _ .full .full (Ext.app _ _) rfl
      · subst hq
        repeat' (first | (simp -dsimp only [↓reduceIte, go_sem]) | (refine guardV_split (fun h => ?_) (fun h => ?_) <;> (try rw [h]) <;> (try simp at h) <;> (try (exfalso; omega))) | (refine Within_c ?_))
        all_goals first
          | (exfalso; exact absurd (hbs (by assumption)) (by assumption))
          | skip
        all_goals
          refine rdBlob_c hS fun b3 hS => ?_
          have e3 : getC l = (⟨4, msg0.client, msg0.sub, msg0.rep, msg0.view, msg0.by_, msg0.tag, msg0.own, r1.blob.1, msg0.nums⟩, r1.blob.2) := by rw [hC]; simp [Rdr.fields, getM, msg0, Rdr.blob]
          have hse3 := hS.e
          by_cases he3 : (r1.blob.2).e = 0
          · rw [he3] at hse3
            obtain ⟨p1, p2, p3⟩ := hS.p he3
            by_cases hat : (r1.blob.2).at_ < l.length
            · have e4 : getR l = (msg0, 6) := by simp only [getR, e3]; simp [he3, hat]
              rw [e4] at fin
              rw [← p1] at hat
              repeat' (first | (simp -dsimp only [↓reduceIte, go_sem, hse3, hat]) | (refine arr_intro fun _ => ?_))
              exact fin _ _ .full .full (Ext.app _ _) rfl
            · by_cases hm : (⟨4, msg0.client, msg0.sub, msg0.rep, msg0.view, msg0.by_, msg0.tag, msg0.own, r1.blob.1, msg0.nums⟩ : Msg).Ok
              · have e4 : getR l = (⟨4, msg0.client, msg0.sub, msg0.rep, msg0.view, msg0.by_, msg0.tag, msg0.own, r1.blob.1, msg0.nums⟩, 0) := by simp only [getR, e3]; simp [he3, hat, hm]
                rw [e4] at fin
                rw [← p1] at hat
                repeat' (first | (simp -dsimp only [↓reduceIte, go_sem, hse3, hat, hm]) | (refine arr_intro fun _ => ?_) | (refine refRight_c (m := ⟨4, msg0.client, msg0.sub, msg0.rep, msg0.view, msg0.by_, msg0.tag, msg0.own, r1.blob.1, msg0.nums⟩) rng0 ?_))
                exact fin _ _ .full .full (Ext.app _ _) rfl
              · have e4 : getR l = (msg0, 6) := by simp only [getR, e3]; simp [he3, hat, hm]
                rw [e4] at fin
                rw [← p1] at hat
                repeat' (first | (simp -dsimp only [↓reduceIte, go_sem, hse3, hat, hm]) | (refine arr_intro fun _ => ?_) | (refine refRight_c (m := ⟨4, msg0.client, msg0.sub, msg0.rep, msg0.view, msg0.by_, msg0.tag, msg0.own, r1.blob.1, msg0.nums⟩) rng0 ?_))
                exact fin _ _ .full .full (Ext.app _ _) rfl
          · have e4 : getR l = (msg0, (r1.blob.2).e) := by simp only [getR, e3]; simp [he3]
            rw [e4, ← hse3] at fin
            rw [← hse3] at he3
            repeat' (first | (simp -dsimp only [↓reduceIte, go_sem, he3]) | (refine later_intro ⟨keeps_refl, ?_⟩) | (refine guardV_split (fun h => ?_) (fun h => ?_) <;> (try rw [h]) <;> (try simp at h) <;> (try (exfalso; omega))) | (with_reducible refine awp_drawT (id := 27) (.op 0 2 (.op 1 0 (.op 2 0 (.op 3 1 (.op 4 2 .nil))))) (by kernel_rfl) ?_))
            exact fin _ _ .full .full (Ext.app _ _) rfl
      · subst hq
        repeat' (first | (simp -dsimp only [↓reduceIte, go_sem]) | (refine guardV_split (fun h => ?_) (fun h => ?_) <;> (try rw [h]) <;> (try simp at h) <;> (try (exfalso; omega))) | (refine Within_c ?_))
        all_goals first
          | (exfalso; exact absurd (hbs (by assumption)) (by assumption))
          | skip
        all_goals
          refine rdBlob_c hS fun b3 hS => ?_
          have e3 : getC l = (⟨6, msg0.client, msg0.sub, msg0.rep, msg0.view, msg0.by_, msg0.tag, msg0.own, r1.blob.1, msg0.nums⟩, r1.blob.2) := by rw [hC]; simp [Rdr.fields, getM, msg0, Rdr.blob]
          have hse3 := hS.e
          by_cases he3 : (r1.blob.2).e = 0
          · rw [he3] at hse3
            obtain ⟨p1, p2, p3⟩ := hS.p he3
            by_cases hat : (r1.blob.2).at_ < l.length
            · have e4 : getR l = (msg0, 6) := by simp only [getR, e3]; simp [he3, hat]
              rw [e4] at fin
              rw [← p1] at hat
              repeat' (first | (simp -dsimp only [↓reduceIte, go_sem, hse3, hat]) | (refine arr_intro fun _ => ?_))
              exact fin _ _ .full .full (Ext.app _ _) rfl
            · by_cases hm : (⟨6, msg0.client, msg0.sub, msg0.rep, msg0.view, msg0.by_, msg0.tag, msg0.own, r1.blob.1, msg0.nums⟩ : Msg).Ok
              · have e4 : getR l = (⟨6, msg0.client, msg0.sub, msg0.rep, msg0.view, msg0.by_, msg0.tag, msg0.own, r1.blob.1, msg0.nums⟩, 0) := by simp only [getR, e3]; simp [he3, hat, hm]
                rw [e4] at fin
                rw [← p1] at hat
                repeat' (first | (simp -dsimp only [↓reduceIte, go_sem, hse3, hat, hm]) | (refine arr_intro fun _ => ?_) | (refine refRight_c (m := ⟨6, msg0.client, msg0.sub, msg0.rep, msg0.view, msg0.by_, msg0.tag, msg0.own, r1.blob.1, msg0.nums⟩) rng0 ?_))
                exact fin _ _ .full .full (Ext.app _ _) rfl
              · have e4 : getR l = (msg0, 6) := by simp only [getR, e3]; simp [he3, hat, hm]
                rw [e4] at fin
                rw [← p1] at hat
                repeat' (first | (simp -dsimp only [↓reduceIte, go_sem, hse3, hat, hm]) | (refine arr_intro fun _ => ?_) | (refine refRight_c (m := ⟨6, msg0.client, msg0.sub, msg0.rep, msg0.view, msg0.by_, msg0.tag, msg0.own, r1.blob.1, msg0.nums⟩) rng0 ?_))
                exact fin _ _ .full .full (Ext.app _ _) rfl
          · have e4 : getR l = (msg0, (r1.blob.2).e) := by simp only [getR, e3]; simp [he3]
            rw [e4, ← hse3] at fin
            rw [← hse3] at he3
            repeat' (first | (simp -dsimp only [↓reduceIte, go_sem, he3]) | (refine later_intro ⟨keeps_refl, ?_⟩) | (refine guardV_split (fun h => ?_) (fun h => ?_) <;> (try rw [h]) <;> (try simp at h) <;> (try (exfalso; omega))) | (with_reducible refine awp_drawT (id := 27) (.op 0 2 (.op 1 0 (.op 2 0 (.op 3 1 (.op 4 2 .nil))))) (by kernel_rfl) ?_))
            exact fin _ _ .full .full (Ext.app _ _) rfl
    · have hB : getB (getA l) = r1.int := by rw [hA]; unfold getB; rw [if_neg h246]
      have hC : getC l = r1.int.2.fields (getM n r1.int.1) := by simp only [getC, hB]; rw [hA]
      have n2 : ¬ n = 2 := fun h => h246 (.inl h)
      have n4 : ¬ n = 4 := fun h => h246 (.inr (.inl h))
      have n6 : ¬ n = 6 := fun h => h246 (.inr (.inr h))
      repeat' (first | (simp -dsimp only [↓reduceIte, go_sem, n2, n4, n6]) | (refine guardV_split (fun h => ?_) (fun h => ?_) <;> (try rw [h]) <;> (try simp at h) <;> (try (exfalso; omega))) | (refine Within_c ?_))
      all_goals first
        | (exfalso; exact absurd (hbs (by assumption)) (by assumption))
        | skip
      all_goals
        refine refInt_c hS fun b2 hS => ?_
        generalize r1.int.1 = c at *
        generalize r1.int.2 = r2 at *
        by_cases hq : n = 1
        · subst hq
          repeat' (simp -dsimp only [↓reduceIte, go_sem])
          refine rdSubmit_c hS fun b3 hS => ?_
          have e3 : getC l = (⟨1, c, r2.sub.1, msg0.rep, msg0.view, msg0.by_, msg0.tag, msg0.own, msg0.blob, msg0.nums⟩, r2.sub.2) := by rw [hC]; simp [Rdr.fields, getM, msg0, Rdr.sub]
          have hse3 := hS.e
          by_cases he3 : (r2.sub.2).e = 0
          · rw [he3] at hse3
            obtain ⟨p1, p2, p3⟩ := hS.p he3
            by_cases hat : (r2.sub.2).at_ < l.length
            · have e4 : getR l = (msg0, 6) := by simp only [getR, e3]; simp [he3, hat]
              rw [e4] at fin
              rw [← p1] at hat
              repeat' (first | (simp -dsimp only [↓reduceIte, go_sem, hse3, hat]) | (refine arr_intro fun _ => ?_))
              exact fin _ _ .full .full (Ext.app _ _) rfl
            · by_cases hm : (⟨1, c, r2.sub.1, msg0.rep, msg0.view, msg0.by_, msg0.tag, msg0.own, msg0.blob, msg0.nums⟩ : Msg).Ok
              · have e4 : getR l = (⟨1, c, r2.sub.1, msg0.rep, msg0.view, msg0.by_, msg0.tag, msg0.own, msg0.blob, msg0.nums⟩, 0) := by simp only [getR, e3]; simp [he3, hat, hm]
                rw [e4] at fin
                rw [← p1] at hat
                repeat' (first | (simp -dsimp only [↓reduceIte, go_sem, hse3, hat, hm]) | (refine arr_intro fun _ => ?_) | (refine refRight_c (m := ⟨1, c, r2.sub.1, msg0.rep, msg0.view, msg0.by_, msg0.tag, msg0.own, msg0.blob, msg0.nums⟩) rng0 ?_))
                exact fin _ _ .full .full (Ext.app _ _) rfl
              · have e4 : getR l = (msg0, 6) := by simp only [getR, e3]; simp [he3, hat, hm]
                rw [e4] at fin
                rw [← p1] at hat
                repeat' (first | (simp -dsimp only [↓reduceIte, go_sem, hse3, hat, hm]) | (refine arr_intro fun _ => ?_) | (refine refRight_c (m := ⟨1, c, r2.sub.1, msg0.rep, msg0.view, msg0.by_, msg0.tag, msg0.own, msg0.blob, msg0.nums⟩) rng0 ?_))
                exact fin _ _ .full .full (Ext.app _ _) rfl
          · have e4 : getR l = (msg0, (r2.sub.2).e) := by simp only [getR, e3]; simp [he3]
            rw [e4, ← hse3] at fin
            rw [← hse3] at he3
            repeat' (first | (simp -dsimp only [↓reduceIte, go_sem, he3]) | (refine later_intro ⟨keeps_refl, ?_⟩) | (refine guardV_split (fun h => ?_) (fun h => ?_) <;> (try rw [h]) <;> (try simp at h) <;> (try (exfalso; omega))) | (with_reducible refine awp_drawT (id := 27) (.op 0 2 (.op 1 0 (.op 2 0 (.op 3 1 (.op 4 2 .nil))))) (by kernel_rfl) ?_))
            exact fin _ _ .full .full (Ext.app _ _) rfl
        · repeat' (first | (simp -dsimp only [↓reduceIte, go_sem, hq, n2, n4, n6]) | (refine guardV_split (fun h => ?_) (fun h => ?_) <;> (try rw [h]) <;> (try simp at h) <;> (try (exfalso; omega))))
          refine refRest_c (n := n) (c := c) (by omega) hS fun b3 t3 u3 hS => ?_
          have hby := fields_by (r := r2) (n := n) (c := c)
          generalize r2.fields (getM n c) = Z at hS hC hby
          obtain ⟨m3, r3⟩ := Z
          dsimp only at hS hby ⊢
          have e3 : getC l = (m3, r3) := hC
          have hse3 := hS.e
          by_cases he3 : (r3).e = 0
          · rw [he3] at hse3
            obtain ⟨p1, p2, p3⟩ := hS.p he3
            by_cases hat : (r3).at_ < l.length
            · have e4 : getR l = (msg0, 6) := by simp only [getR, e3]; simp [he3, hat]
              rw [e4] at fin
              rw [← p1] at hat
              repeat' (first | (simp -dsimp only [↓reduceIte, go_sem, hse3, hat]) | (refine arr_intro fun _ => ?_))
              exact fin _ _ .full .full (Ext.app _ _) rfl
            · by_cases hm : (m3 : Msg).Ok
              · have e4 : getR l = (m3, 0) := by simp only [getR, e3]; simp [he3, hat, hm]
                rw [e4] at fin
                rw [← p1] at hat
                repeat' (first | (simp -dsimp only [↓reduceIte, go_sem, hse3, hat, hm]) | (refine arr_intro fun _ => ?_) | (refine refRight_c (m := m3) hby ?_))
                exact fin _ _ t3 u3 (Ext.app _ _) rfl
              · have e4 : getR l = (msg0, 6) := by simp only [getR, e3]; simp [he3, hat, hm]
                rw [e4] at fin
                rw [← p1] at hat
                repeat' (first | (simp -dsimp only [↓reduceIte, go_sem, hse3, hat, hm]) | (refine arr_intro fun _ => ?_) | (refine refRight_c (m := m3) hby ?_))
                exact fin _ _ .full .full (Ext.app _ _) rfl
          · have e4 : getR l = (msg0, (r3).e) := by simp only [getR, e3]; simp [he3]
            rw [e4, ← hse3] at fin
            rw [← hse3] at he3
            repeat' (first | (simp -dsimp only [↓reduceIte, go_sem, he3]) | (refine later_intro ⟨keeps_refl, ?_⟩) | (refine guardV_split (fun h => ?_) (fun h => ?_) <;> (try rw [h]) <;> (try simp at h) <;> (try (exfalso; omega))) | (with_reducible refine awp_drawT (id := 27) (.op 0 2 (.op 1 0 (.op 2 0 (.op 3 1 (.op 4 2 .nil))))) (by kernel_rfl) ?_))
            exact fin _ _ .full .full (Ext.app _ _) rfl
end Go.Aff.L10

namespace Go.Aff.L01
open Go.Proofs Go.Aff
set_option maxRecDepth 20000

theorem text_once {s t : List UInt8} {p : Nat} {nx : Int} (hp : p ≤ s.length) (h : textP s p = (t, nx, 0)) :
    s.drop p = textS t ++ s.drop nx.toNat ∧ nx = ((p + (textS t).length : Nat) : Int) ∧ ¬ 16384 < t.length := by
  unfold textP at h
  have hel := dend_le hp
  split at h
  · simp only [Prod.mk.injEq] at h; rename_i h0; exact absurd h.2.2 h0
  · rename_i h0
    have h0 := Classical.not_not.1 h0
    split at h
    · simp at h
    · split at h
      · simp at h
      · rename_i hv hlt
        simp only [Prod.mk.injEq, and_true] at h
        obtain ⟨rfl, rfl⟩ := h
        have h1 := shape_once (c := 58) hp h0
        have hok := shape_lt h0 hel
        have hlen := congrArg List.length h1
        have htl : ((s.take (dend s p + 1 + val (digs s p))).drop (dend s p + 1)).length = val (digs s p) := by simp; omega
        have hts : textS ((s.take (dend s p + 1 + val (digs s p))).drop (dend s p + 1)) = dg (val (digs s p)) ++ [58] ++ (s.take (dend s p + 1 + val (digs s p))).drop (dend s p + 1) := by unfold textS; rw [htl]
        have hnx : (((dend s p + 1 + val (digs s p) : Nat) : Int)).toNat = dend s p + 1 + val (digs s p) := by rw [Int.toNat_natCast]
        rw [hts, hnx, htl]
        simp only [List.length_append, List.length_cons, List.length_drop, List.length_nil] at hlen
        refine ⟨?_, ?_, hv⟩
        · rw [h1]
          have : s.drop (dend s p + 1) = (s.take (dend s p + 1 + val (digs s p))).drop (dend s p + 1) ++ s.drop (dend s p + 1 + val (digs s p)) := by
            rw [List.drop_take, show dend s p + 1 + val (digs s p) - (dend s p + 1) = val (digs s p) by omega, ← List.drop_drop (i := val (digs s p)) (j := dend s p + 1), List.take_append_drop]
          conv => lhs; rw [this]
          simp
        · simp only [List.length_append, List.length_cons, List.length_nil, htl]; omega

theorem readL_once {α : Type} {f : α → List UInt8} {one : Nat → α × Int × Int} {s : List UInt8} {pr : α → Prop}
    (hone : ∀ (p : Nat) (a : α) (nx : Int), p ≤ s.length → one p = (a, nx, 0) → s.drop p = f a ++ s.drop nx.toNat ∧ nx = ((p + (f a).length : Nat) : Int) ∧ pr a) :
    ∀ (k p : Nat) (acc l : List α) (nx : Int), s.length - p ≤ k → p ≤ s.length → acc.length ≤ 512 → readL one s p acc = (l, nx, 0) →
      ∃ r, l = acc ++ r ∧ s.drop p = r.flatMap f ++ 41 :: s.drop nx.toNat ∧ nx = ((p + (r.flatMap f).length + 1 : Nat) : Int) ∧ (∀ a ∈ r, pr a) ∧ l.length ≤ 512 := by
  intro k
  induction k with
  | zero =>
    intro p acc l nx hk hp hacc h
    rw [readL, if_pos (by omega)] at h
    simp at h
  | succ k ih =>
    intro p acc l nx hk hp hacc h
    rw [readL] at h
    split at h
    · simp at h
    · rename_i hne
      split at h
      · rename_i h41
        simp only [Prod.mk.injEq, and_true] at h
        obtain ⟨rfl, rfl⟩ := h
        have hlt : p < s.length := by omega
        have hc := bAt_some (c := 41) hlt h41
        refine ⟨[], by simp, ?_, by simp, by simp, hacc⟩
        rw [List.flatMap_nil, List.nil_append, Int.toNat_natCast, List.drop_eq_getElem_cons hlt]; congr 1
        rw [List.getElem?_eq_getElem hlt] at hc; exact Option.some.inj hc
      · split at h
        · simp at h
        · rename_i h512
          split at h
          · simp only [Prod.mk.injEq] at h; rename_i h0; exact absurd h.2.2 h0
          · rename_i h0
            split at h
            · rename_i hpr
              have h0 := Classical.not_not.1 h0
              obtain ⟨e1, e2, e3⟩ := hone p (one p).1 (one p).2.1 hp (by rw [← h0])
              obtain ⟨r, hr1, hr2, hr3, hr4, hr5⟩ := ih (one p).2.1.toNat (acc ++ [(one p).1]) l nx (by omega) (by omega) (by simp; omega) h
              refine ⟨(one p).1 :: r, by rw [hr1]; simp, ?_, ?_, ?_, hr5⟩
              · rw [e1, hr2]; simp
              · rw [hr3, e2]; simp; omega
              · intro a ha
                rcases List.mem_cons.1 ha with rfl | ha
                · exact e3
                · exact hr4 a ha
            · simp at h

theorem list_once {α : Type} {f : α → List UInt8} {one : Nat → α × Int × Int} {s : List UInt8} {pr : α → Prop}
    (hone : ∀ (p : Nat) (a : α) (nx : Int), p ≤ s.length → one p = (a, nx, 0) → s.drop p = f a ++ s.drop nx.toNat ∧ nx = ((p + (f a).length : Nat) : Int) ∧ pr a)
    {p : Nat} {l : List α} {nx : Int} (hp : p ≤ s.length) (h : readR one s p = (l, nx, 0)) :
    s.drop p = laidAll f l ++ s.drop nx.toNat ∧ nx = ((p + (laidAll f l).length : Nat) : Int) ∧ (∀ a ∈ l, pr a) ∧ ¬ 512 < l.length := by
  unfold readR at h
  split at h
  · simp at h
  · split at h
    · simp at h
    · split at h
      · simp at h
      · rename_i h1 h2 h40
        rw [Int.toNat_natCast] at h h2 h40
        have hlt : p < s.length := by omega
        have hc := bAt_some (c := 40) hlt (Classical.not_not.1 h40)
        obtain ⟨r, hr1, hr2, hr3, hr4, hr5⟩ := readL_once (f := f) hone _ (p + 1) [] l nx (Nat.le_refl _) (by omega) (by simp) h
        rw [List.nil_append] at hr1; subst hr1
        refine ⟨?_, ?_, hr4, by omega⟩
        · have : s.drop p = 40 :: s.drop (p + 1) := by
            rw [List.drop_eq_getElem_cons hlt]; congr 1
            rw [List.getElem?_eq_getElem hlt] at hc; exact Option.some.inj hc
          rw [this, hr2]; simp [laidAll, part]
        · rw [hr3]; simp [laidAll, part]; omega

theorem between {s x : List UInt8} {p : Nat} {nx : Int} (h : s.drop p = x ++ s.drop nx.toNat) (hn : nx = ((p + x.length : Nat) : Int)) (hp : p ≤ s.length) : p ≤ nx.toNat ∧ nx.toNat ≤ s.length ∧ (s.take nx.toNat).drop p = x := by
  have h2 : nx.toNat = p + x.length := by rw [hn, Int.toNat_natCast]
  have hlen := congrArg List.length h
  rw [h2] at h hlen ⊢
  simp only [List.length_append, List.length_drop] at hlen
  refine ⟨by omega, by omega, ?_⟩
  rw [List.drop_take, show p + x.length - p = x.length by omega, h, List.take_left]

end Go.Aff.L01

namespace Go.Aff.L10
open Go.Proofs Go.Aff Go.Aff.L01 Classical
set_option maxRecDepth 20000

def Good (r : Rdr) : Prop := 0 ≤ r.at_ ∧ r.at_ ≤ r.s.length
def Eats (r : Rdr) (x : List UInt8) (r' : Rdr) : Prop := r'.e = 0 → r.e = 0 ∧ r'.s = r.s ∧ (Good r → Good r' ∧ r.s.drop r.at_.toNat = x ++ r.s.drop r'.at_.toNat)
theorem Eats.trans {r r1 r2 : Rdr} {x y : List UInt8} (h : Eats r x r1) (k : Eats r1 y r2) : Eats r (x ++ y) r2 := fun h0 => by
  obtain ⟨k1, k2, k3⟩ := k h0
  obtain ⟨h1, h2, h3⟩ := h k1
  refine ⟨h1, by rw [k2, h2], fun g => ?_⟩
  obtain ⟨g1, g2⟩ := h3 g
  obtain ⟨g3, g4⟩ := k3 g1
  refine ⟨g3, ?_⟩
  rw [g2, ← h2, g4, List.append_assoc]
theorem Eats.refl {r : Rdr} : Eats r [] r := fun h => ⟨h, rfl, fun g => ⟨g, rfl⟩⟩
theorem Eats.of_eq {r r' : Rdr} {x y : List UInt8} (h : Eats r x r') (e : y = x) : Eats r y r' := by subst e; exact h
theorem Eats.err {r r' : Rdr} {x : List UInt8} (h : r'.e ≠ 0) : Eats r x r' := fun h0 => absurd h0 h
theorem int_eats {r : Rdr} : Eats r (numS r.int.1) r.int.2 := by
  unfold Rdr.int
  split
  · rename_i h; exact Eats.err h
  · rename_i h
    intro h0
    dsimp only at h0 ⊢
    refine ⟨Classical.not_not.1 h, rfl, fun g => ?_⟩
    obtain ⟨g1, g2⟩ := g
    have hp := prog_num h0
    have e : numP r.s r.at_.toNat = ((numR r.s r.at_).1, (numR r.s r.at_).2.1, 0) := by
      have : numR r.s r.at_ = numP r.s r.at_.toNat := by rw [numR, if_neg (by omega)]
      rw [← this, ← h0]
    have h1 := num_once (by omega) e
    exact ⟨⟨by dsimp only; omega, by dsimp only; omega⟩, h1.1⟩
theorem text_eats {r : Rdr} : Eats r (textS r.text.1) r.text.2 := by
  unfold Rdr.text
  split
  · rename_i h; exact Eats.err h
  · rename_i h
    intro h0
    dsimp only at h0 ⊢
    refine ⟨Classical.not_not.1 h, rfl, fun g => ?_⟩
    obtain ⟨g1, g2⟩ := g
    have hp := prog_text h0
    have e : textP r.s r.at_.toNat = ((textR r.s r.at_).1, (textR r.s r.at_).2.1, 0) := by
      have : textR r.s r.at_ = textP r.s r.at_.toNat := by rw [textR, if_neg (by omega)]
      rw [← this, ← h0]
    have h1 := text_once (by omega) e
    exact ⟨⟨by dsimp only; omega, by dsimp only; omega⟩, h1.1⟩
theorem ints_eats {r : Rdr} : Eats r (laidAll numS r.ints.1) r.ints.2 := by
  unfold Rdr.ints
  split
  · rename_i h; exact Eats.err h
  · rename_i h
    intro h0
    dsimp only at h0 ⊢
    refine ⟨Classical.not_not.1 h, rfl, fun g => ?_⟩
    obtain ⟨g1, g2⟩ := g
    have hp : r.at_ < (intsR r.s r.at_).2.1 ∧ (intsR r.s r.at_).2.1 ≤ r.s.length := readR_prog h0
    have e : readR (numP r.s) r.s ((r.at_.toNat : Nat) : Int) = ((intsR r.s r.at_).1, (intsR r.s r.at_).2.1, 0) := by
      rw [show ((r.at_.toNat : Nat) : Int) = r.at_ by omega, ← h0]
    have h1 := list_once (f := numS) (pr := fun n => -9223372036854775808 ≤ n ∧ n ≤ 9223372036854775807) (fun p a nx hp h => num_once hp h) (by omega) e
    exact ⟨⟨by dsimp only; omega, by dsimp only; omega⟩, h1.1⟩
theorem dig_eats {r : Rdr} : Eats r (digS r.dig.1) r.dig.2 := by
  have h := text_eats (r := r)
  intro h0
  simp only [Rdr.dig] at h0 ⊢
  split at h0
  · simp at h0
  · rename_i hc
    rw [if_neg hc]
    have hd : (digOf r.text.1).2 = 0 := Classical.byContradiction fun hd => hc ⟨h0, hd⟩
    have hl : (digOf r.text.1).1.l = r.text.1 := by
      unfold digOf at hd ⊢
      split
      · rfl
      · rename_i h32; rw [dif_neg h32] at hd; dsimp only at hd; split at hd <;> simp at hd
    rw [digS, hl]
    exact h h0
theorem pend_eats {r : Rdr} : Eats r (pendB r.pend.1) r.pend.2 :=
  (int_eats.trans (int_eats.trans (int_eats.trans (int_eats.trans (dig_eats.trans dig_eats))))).of_eq (by simp [pendB, Rdr.pend])
theorem pends_eats : ∀ {k : Nat} {r : Rdr}, Eats r ((Rdr.pends k r).1.flatMap pendB) (Rdr.pends k r).2 ∧ ((Rdr.pends k r).2.e = 0 → (Rdr.pends k r).1.length = k)
  | 0, r => ⟨Eats.refl, fun _ => rfl⟩
  | k + 1, r => by
    by_cases he : r.e = 0
    · have e : Rdr.pends (k + 1) r = (r.pend.1 :: (Rdr.pends k r.pend.2).1, (Rdr.pends k r.pend.2).2) := by rw [Rdr.pends, if_neg (by simp [he])]
      obtain ⟨h1, h2⟩ := pends_eats (k := k) (r := r.pend.2)
      rw [e]
      exact ⟨(pend_eats.trans h1).of_eq (by simp), fun h0 => by simp [h2 h0]⟩
    · rw [pends_err he]
      exact ⟨Eats.err he, fun h0 => absurd h0 he⟩
theorem rep_eats {r : Rdr} : Eats r (ansB r.rep.1) r.rep.2 := by
  have hrep : r.rep = Rdr.rep2 { r.rep1.1 with pending := (Rdr.pends r.rep1.2.1.toNat r.rep1.2.2).1 } (Rdr.pends r.rep1.2.1.toNat r.rep1.2.2).2 := rfl
  obtain ⟨hp1, hp2⟩ := pends_eats (k := r.rep1.2.1.toNat) (r := r.rep1.2.2)
  by_cases hc : r.rep1.2.2.e = 0
  · have e2 : r.rep1.2.2 = if r.int.2.int.2.text.2.dig.2.int.2.e = 0 ∧ ¬ In 0 8 r.int.2.int.2.text.2.dig.2.int.1 then { r.int.2.int.2.text.2.dig.2.int.2 with e := 6 } else r.int.2.int.2.text.2.dig.2.int.2 := rfl
    have e3 : r.rep1.2.1 = r.int.2.int.2.text.2.dig.2.int.1 := rfl
    have hb : ¬ (r.int.2.int.2.text.2.dig.2.int.2.e = 0 ∧ ¬ In 0 8 r.int.2.int.2.text.2.dig.2.int.1) := fun h => by rw [if_pos h] at e2; rw [e2] at hc; simp at hc
    rw [if_neg hb] at e2
    rw [e2] at hc
    have hin : In 0 8 r.int.2.int.2.text.2.dig.2.int.1 := Classical.byContradiction fun h => hb ⟨hc, h⟩
    have h1 : Eats r (numS r.int.1 ++ (numS r.int.2.int.1 ++ (textS r.int.2.int.2.text.1 ++ (digS r.int.2.int.2.text.2.dig.1 ++ numS r.rep1.2.1)))) r.rep1.2.2 := by
      rw [e2, e3]
      exact int_eats.trans (int_eats.trans (text_eats.trans (dig_eats.trans int_eats)))
    generalize hP : Rdr.pends r.rep1.2.1.toNat r.rep1.2.2 = P at hp1 hp2 hrep
    have h2 : Eats P.2 (numS P.2.int.1 ++ (textS P.2.int.2.text.1 ++ (digS P.2.int.2.text.2.dig.1 ++ (textS P.2.int.2.text.2.dig.2.text.1 ++ digS P.2.int.2.text.2.dig.2.text.2.dig.1)))) P.2.int.2.text.2.dig.2.text.2.dig.2 :=
      int_eats.trans (text_eats.trans (dig_eats.trans (text_eats.trans dig_eats)))
    have h3 := h1.trans (hp1.trans h2)
    intro h0
    have hr2 : r.rep.2 = P.2.int.2.text.2.dig.2.text.2.dig.2 := by rw [hrep]; rfl
    have hP0 : P.2.e = 0 := (h2 (by rw [← hr2]; exact h0)).1
    have hlen := hp2 hP0
    have hnum : numS r.rep1.2.1 = numS (P.1.length : Int) := by
      rw [hlen, e3]; congr 1; simp only [In] at hin; omega
    have e4 : ansB r.rep.1 = numS r.int.1 ++ (numS r.int.2.int.1 ++ (textS r.int.2.int.2.text.1 ++ (digS r.int.2.int.2.text.2.dig.1 ++ numS (P.1.length : Int)))) ++ (P.1.flatMap pendB ++ (numS P.2.int.1 ++ (textS P.2.int.2.text.1 ++ (digS P.2.int.2.text.2.dig.1 ++ (textS P.2.int.2.text.2.dig.2.text.1 ++ digS P.2.int.2.text.2.dig.2.text.2.dig.1))))) := by
      rw [hrep]; simp [ansB, Rdr.rep2, Rdr.rep1]
    rw [hr2] at h0 ⊢
    rw [e4, ← hnum]
    exact h3 h0
  · have e : Rdr.pends r.rep1.2.1.toNat r.rep1.2.2 = ([], r.rep1.2.2) := pends_err hc
    have herr : ∀ r' : Rdr, r'.e ≠ 0 → (Rdr.rep2 { r.rep1.1 with pending := [] } r').2.e ≠ 0 := fun r' h => by
      simp [Rdr.rep2, Rdr.int, Rdr.text, Rdr.dig, h]
    rw [hrep, e]
    exact Eats.err (herr _ hc)

theorem fields_kc {r : Rdr} {m : Msg} : (r.fields m).1.kind = m.kind ∧ (r.fields m).1.client = m.client := by
  unfold Rdr.fields
  repeat' split
  all_goals exact ⟨rfl, rfl⟩
theorem fields_eats {r : Rdr} {n c : Int} : Eats r (r.fields (getM n c)).1.rest (r.fields (getM n c)).2 := by
  rcases kinds_all n with hq | hq | hq | hq | hq | hq | hq | hq | hq | hq | hq
  · subst hq
    simp only [Rdr.fields, getM, Msg.rest, Int.reduceEq, if_true, if_false, or_self, or_true, true_or, false_or, or_false]
    exact (int_eats.trans (int_eats.trans (int_eats.trans (text_eats.trans (dig_eats.trans dig_eats))))).of_eq (by simp [subB])
  · subst hq
    simp only [Rdr.fields, getM, Msg.rest, Int.reduceEq, if_true, if_false, or_self, or_true, true_or, false_or, or_false]
    exact rep_eats
  · subst hq
    simp only [Rdr.fields, getM, Msg.rest, Int.reduceEq, if_true, if_false, or_self, or_true, true_or, false_or, or_false]
    exact (text_eats.trans dig_eats).of_eq (by simp)
  · subst hq
    simp only [Rdr.fields, getM, Msg.rest, Int.reduceEq, if_true, if_false, or_self, or_true, true_or, false_or, or_false]
    exact (int_eats.trans (int_eats.trans (text_eats.trans dig_eats))).of_eq (by simp [blobB])
  · subst hq
    simp only [Rdr.fields, getM, Msg.rest, Int.reduceEq, if_true, if_false, or_self, or_true, true_or, false_or, or_false]
    exact (int_eats.trans (int_eats.trans (text_eats.trans dig_eats))).of_eq (by simp [blobB])
  · subst hq
    simp only [Rdr.fields, getM, Msg.rest, Int.reduceEq, if_true, if_false, or_self, or_true, true_or, false_or, or_false]
    exact ints_eats
  · subst hq
    simp only [Rdr.fields, getM, Msg.rest, Int.reduceEq, if_true, if_false, or_self, or_true, true_or, false_or, or_false]
    exact ints_eats
  · subst hq
    simp only [Rdr.fields, getM, Msg.rest, Int.reduceEq, if_true, if_false, or_self, or_true, true_or, false_or, or_false]
    exact ints_eats
  · subst hq
    simp only [Rdr.fields, getM, Msg.rest, Int.reduceEq, if_true, if_false, or_self, or_true, true_or, false_or, or_false]
    exact (int_eats.trans (text_eats.trans (dig_eats.trans dig_eats))).of_eq (by simp)
  · subst hq
    simp only [Rdr.fields, getM, Msg.rest, Int.reduceEq, if_true, if_false, or_self, or_true, true_or, false_or, or_false]
    exact dig_eats.of_eq (by simp)
  · obtain ⟨h1, h2, h3, h4, h6, h5, h7, h8, h10, h11⟩ := hq
    simp only [Rdr.fields, getM, Msg.rest, h1, h2, h3, h4, h5, h6, h7, h8, h10, h11, if_false, or_self]
    exact Eats.refl
theorem get_once {s : List UInt8} (h : (getR s).2 = 0) : (getR s).1.Ok ∧ (getR s).1.bytes = s := by
  have hA : Eats ⟨s, 0, 0⟩ (numS (getA s).1) (getA s).2 := by
    simp only [getA]
    split
    · exact Eats.err (by simp)
    · exact int_eats
  have hB : Eats (getA s).2 (if (getA s).1 = 2 ∨ (getA s).1 = 4 ∨ (getA s).1 = 6 then [] else numS (getB (getA s)).1) (getB (getA s)).2 := by
    unfold getB
    split
    · exact Eats.refl
    · exact int_eats
  have hC : Eats (getB (getA s)).2 (getC s).1.rest (getC s).2 := fields_eats
  have hk : (getC s).1.kind = (getA s).1 ∧ (getC s).1.client = (getB (getA s)).1 := fields_kc
  have hT := hA.trans (hB.trans hC)
  unfold getR at h ⊢
  split
  · rename_i he; rw [if_pos he] at h; exact absurd h he
  · rename_i he
    rw [if_neg he] at h
    split
    · rename_i hb; rw [if_pos hb] at h; simp at h
    · rename_i hb
      have he : (getC s).2.e = 0 := Classical.not_not.1 he
      have hok : (getC s).1.Ok := Classical.byContradiction fun hn => hb (.inr hn)
      have hat : ¬ (getC s).2.at_ < s.length := fun hn => hb (.inl hn)
      refine ⟨hok, ?_⟩
      obtain ⟨_, hs, hg⟩ := hT he
      obtain ⟨⟨g1, g2⟩, g3⟩ := hg ⟨by simp, by simp⟩
      rw [hs] at g2
      dsimp only at g2 g3
      have hd : s.drop (getC s).2.at_.toNat = [] := List.drop_eq_nil_of_le (by omega)
      rw [hd, List.append_nil] at g3
      simp only [Msg.bytes, hk.1, hk.2]
      simp at g3
      simp only [List.flatMap_cons, List.flatMap_nil, List.append_nil, List.append_assoc]
      exact g3.symm
end Go.Aff.L10

namespace Go.Aff.L10
open Go.Proofs Go.Aff Go.Aff.L01 Classical
def replyM (y : Rep) : Msg := { msg0 with kind := 2, rep := y }
noncomputable section
def heard (M : Reg) (c : Int) (b : List UInt8) : Prop := M.has c ∧ (getR b).2 = 0
def onR (M : Reg) (c : Int) (b : List UInt8) : Reg :=
  if heard M c b then
    (if (getR b).1.kind = 1 ∧ (getR b).1.client = c then (M.submit c (getR b).1.sub).1
    else if (getR b).1.kind = 3 ∧ (getR b).1.client = c then (M.commit c (getR b).1.view (getR b).1.tag).1 else M)
  else M
def onB (M : Reg) (B : List Blob) (c : Int) (b : List UInt8) : List Blob :=
  if heard M c b then
    (if (getR b).1.kind = 4 ∧ (getR b).1.blob.owner = c then (bput B (getR b).1.blob).1
    else if (getR b).1.kind = 8 ∧ (getR b).1.client = c then (bprune B c (getR b).1.nums).1 else B)
  else B
def onL (M : Reg) (B : List Blob) (c : Int) (b : List UInt8) : List Msg :=
  if heard M c b then
    (if (getR b).1.kind = 1 ∧ (getR b).1.client = c then (if (M.submit c (getR b).1.sub).2.2 = 0 then [replyM (M.submit c (getR b).1.sub).2.1] else [])
    else if (getR b).1.kind = 5 then lettersM B (getR b).1 else [])
  else []
end
section
variable {M : Reg} {B : List Blob} {c : Int} {b : List UInt8}
theorem on_deaf (h : ¬ heard M c b) : onR M c b = M ∧ onB M B c b = B ∧ onL M B c b = [] := by
  simp only [onR, onB, onL, if_neg h, and_self]
theorem on_rest (h1 : ¬ ((getR b).1.kind = 1 ∧ (getR b).1.client = c)) (h3 : ¬ ((getR b).1.kind = 3 ∧ (getR b).1.client = c)) (h4 : ¬ ((getR b).1.kind = 4 ∧ (getR b).1.blob.owner = c)) (h8 : ¬ ((getR b).1.kind = 8 ∧ (getR b).1.client = c)) (h5 : ¬ (getR b).1.kind = 5) :
    onR M c b = M ∧ onB M B c b = B ∧ onL M B c b = [] := by
  simp only [onR, onB, onL, if_neg h1, if_neg h3, if_neg h4, if_neg h8, if_neg h5, ite_self, and_self]
theorem on_kind1 (h : heard M c b) (hk : (getR b).1.kind = 1) (hc : (getR b).1.client = c) :
    onR M c b = (M.submit c (getR b).1.sub).1 ∧ onB M B c b = B ∧ onL M B c b = if (M.submit c (getR b).1.sub).2.2 = 0 then [replyM (M.submit c (getR b).1.sub).2.1] else [] := by
  refine ⟨?_, ?_, ?_⟩
  · rw [onR, if_pos h, if_pos ⟨hk, hc⟩]
  · rw [onB, if_pos h, if_neg (by omega), if_neg (by omega)]
  · rw [onL, if_pos h, if_pos ⟨hk, hc⟩]
theorem on_kind3 (h : heard M c b) (hk : (getR b).1.kind = 3) (hc : (getR b).1.client = c) :
    onR M c b = (M.commit c (getR b).1.view (getR b).1.tag).1 ∧ onB M B c b = B ∧ onL M B c b = [] := by
  refine ⟨?_, ?_, ?_⟩
  · rw [onR, if_pos h, if_neg (by omega), if_pos ⟨hk, hc⟩]
  · rw [onB, if_pos h, if_neg (by omega), if_neg (by omega)]
  · rw [onL, if_pos h, if_neg (by omega), if_neg (by omega)]
theorem on_kind4 (h : heard M c b) (hk : (getR b).1.kind = 4) (hc : (getR b).1.blob.owner = c) :
    onR M c b = M ∧ onB M B c b = (bput B (getR b).1.blob).1 ∧ onL M B c b = [] := by
  refine ⟨?_, ?_, ?_⟩
  · rw [onR, if_pos h, if_neg (by omega), if_neg (by omega)]
  · rw [onB, if_pos h, if_pos ⟨hk, hc⟩]
  · rw [onL, if_pos h, if_neg (by omega), if_neg (by omega)]
theorem on_kind5 (h : heard M c b) (hk : (getR b).1.kind = 5) :
    onR M c b = M ∧ onB M B c b = B ∧ onL M B c b = lettersM B (getR b).1 := by
  refine ⟨?_, ?_, ?_⟩
  · rw [onR, if_pos h, if_neg (by omega), if_neg (by omega)]
  · rw [onB, if_pos h, if_neg (by omega), if_neg (by omega)]
  · rw [onL, if_pos h, if_neg (by omega), if_pos hk]
theorem on_kind8 (h : heard M c b) (hk : (getR b).1.kind = 8) (hc : (getR b).1.client = c) :
    onR M c b = M ∧ onB M B c b = (bprune B c (getR b).1.nums).1 ∧ onL M B c b = [] := by
  refine ⟨?_, ?_, ?_⟩
  · rw [onR, if_pos h, if_neg (by omega), if_neg (by omega)]
  · rw [onB, if_pos h, if_neg (by omega), if_pos ⟨hk, hc⟩]
  · rw [onL, if_pos h, if_neg (by omega), if_neg (by omega)]
theorem nums_le (he : (getR b).2 = 0) (hk : (getR b).1.kind = 5 ∨ (getR b).1.kind = 8) : NumsOk (getR b).1.nums := by
  have h := (get_once he).1.1
  unfold Msg.FieldsOk at h
  rcases hk with hk | hk
  all_goals
    rw [hk] at h
    simpa using h
theorem onR_ok (hM : M.Ok) : (onR M c b).Ok := by
  unfold onR
  split
  · split
    · exact Reg.submit_ok hM
    · split
      · exact Reg.commit_ok hM
      · exact hM
  · exact hM
theorem onB_ok (hB : BOk B) : BOk (onB M B c b) := by
  unfold onB
  split
  · split
    · exact hB.put _
    · split
      · exact hB.prune _ _
      · exact hB
  · exact hB
theorem Reg.submit_n {x : Sub} {n : Int} : (M.submit n x).1.n = M.n := by
  unfold Reg.submit
  split
  · rfl
  · split
    · split <;> rfl
    · split
      · rfl
      · split <;> rfl
theorem Reg.commit_n {v : List UInt8} {t : Dig} {n : Int} : (M.commit n v t).1.n = M.n := by
  unfold Reg.commit
  split
  · rfl
  · split
    · rfl
    · split
      · rfl
      · split <;> rfl
theorem onR_n : (onR M c b).n = M.n := by
  unfold onR
  split
  · split
    · exact Reg.submit_n
    · split
      · exact Reg.commit_n
      · rfl
  · rfl
end
end Go.Aff.L10

namespace Go.Aff.L10
open Go.Proofs Go.Aff Go.Aff.L01 Classical
set_option maxRecDepth 20000
attribute [-go_sem] cellAt_new
attribute [-simp] List.length_flatMap
attribute [local go_sem] Tryz.underlying40 sizes_sub fits_sub sizes_rep shapes_rep fits_rep zero_rep zt_rep blobPs_0 blobAt_0 sizes_blob shapes_blob fits_blob Tryz.underlying39 msgPs_0 msgAt_0 msgSet_0 msgPs_1 msgAt_1 msgSet_1 msgPs_2 msgAt_2 msgPs_3 msgAt_3 msgSet_3 msgPs_4 msgAt_4 msgPs_6 msgAt_6 msgPs_8 msgAt_8 msgSet_8 msgPs_9 msgAt_9 sizes_msg shapes_msg fits_msg zero_msg zt_msg built_msg Tryz.underlying42
attribute [local go_sem] fits3 fits9 fits23 fits31
attribute [local go_sem] fits28p srvPs_0 srvPs_1 srvPs_2 srvAt_0 srvAt_1 srvAt_2 Tryz.underlying68 Tryz.underlying23
attribute [local go_sem] fits23r arrV_none arrV_some
attribute [local go_sem] Tryz.underlying74 fits74b rstPs_0 rstAt_0 Tryz.underlying76
attribute [local go_sem] rfPs_0 rfPs_1 rfAt_0 rfAt_1 fits71p fits73p Tryz.underlying78
section
variable {σ0 s : AST} {A : Ads} {n : Int} {M N : Reg} {B C : List Blob} {F : List (Nat × AObj)} {c : Int} {b : List UInt8} {K : AV → AST → Prop}
theorem onSubmit_c (h : Sv σ0 s A n M N B C F) (hM : M.Ok) {m : Msg} {t u : Tk}
    (hK : ∀ s' tk L', L'.map (·.2.2) = (if (M.submit m.client m.sub).2.2 = 0 then [replyM (M.submit m.client m.sub).2.1] else []) → Sv σ0 s' A n (M.submit m.client m.sub).1 N B C F → K (.slice tk ((sentL L').map AV.str)) s') :
    TCalls Tryz.prog 34 [.ptr (some (A.q, [])), msgV t u m] s K := by
  have h1 := h.box (.cells (msgV t u m))
  have hlt := h.lt
  generalize hs1 : s.app [.cells (msgV t u m)] = s1 at h1
  have b0 := (h1.f _ (List.mem_cons_self ..)).2
  dsimp only at b0
  have cb0 := cellAt_known b0
  have cq := cellAt_known h1.q
  have hq := h1.q
  refine tcalls_walk Tryz.f34 _ [.tmp 4] Tryz.func34 rfl rfl rfl mixed (Nat.le_of_ble_eq_true rfl) rfl fun hlen => ?_
  have hqA := fun l => objs_known_app hq l
  have b0A := fun l => objs_known_app b0 l
  repeat' (first | (simp -dsimp only [↓reduceIte, go_sem, hs1, cb0, cq]) | (refine both_ways ?_ ?_) | (with_reducible refine awp_drawU (id := 1) (.op 0 0 (.op 1 0 (.op 2 0 (.op 3 0 (.op 4 0 (.op 5 0 (.op 6 0 (.op 7 0 (.fork 8 (.op 8 1 (.op 9 0 (.op 10 0 (.op 11 0 (.op 12 1 (.op 13 1 (.op 14 2 .nil))))))) (.op 12 1 (.cut (.op 8 1 (.op 9 2 (.op 10 2 (.op 11 0 (.op 13 1 (.op 14 2 .nil))))))))))))))))) (by kernel_rfl) ?_) | (with_reducible refine keeps_go ?_ ?_; focus (simp [keeps_cons, keeps_none, objs_app, objs_app0, hq, b0, hqA, b0A]; done)) | fail)
  case refine_1 =>
    refine vSubmit_c h1 hM fun t' s2 h2 => ?_
    have h3 := h2.box (.cells (repV t' (M.submit m.client m.sub).2.1))
    have o2 := (h3.f _ (List.mem_cons_self ..)).2
    dsimp only at o2
    have c2 := cellAt_known o2
    have hq2 := h2.q
    have b2 := (h2.f _ (List.mem_cons_self ..)).2
    dsimp only at b2
    have hq3 := fun l => objs_known_app hq2 l
    have b3 := fun l => objs_known_app b2 l
    by_cases hw : (M.submit m.client m.sub).2.2 = 0
    · rw [if_pos hw] at hK
      repeat' (first | (simp -dsimp only [↓reduceIte, go_sem, hw, c2, o2]) | (refine build_slice E76 rfl (by decide) (by intro v hv; simp at hv; subst hv; simp [go_sem]) ?_) | (with_reducible refine keeps_go ?_ ?_; focus (simp [keeps_cons, keeps_none, objs_app, objs_app0, hq, b0, hq2, b2, hq3, b3]; done)) | fail)
      refine send_c (L := [(t', .full, replyM (M.submit m.client m.sub).2.1)]) (by simp) fun s4 t4 hx4 => ?_
      repeat' (simp -dsimp only [↓reduceIte, go_sem])
      exact hK _ _ _ (by simp) (h3.ext hx4).less.less
    · rw [if_neg hw] at hK
      repeat' (first | (simp -dsimp only [↓reduceIte, go_sem, hw, c2]) | (refine guardV_split (fun h => ?_) (fun h => ?_) <;> (try rw [h]) <;> (try simp at h) <;> (try (exfalso; omega))) | (with_reducible refine keeps_go ?_ ?_; focus (simp [keeps_cons, keeps_none, objs_app, objs_app0, hq, b0, hq2, b2, hq3, b3]; done)) | fail)
      exact hK _ .full [] rfl h3.less.less
  case refine_2.refine_2 =>
    have h1b := h1.box (.cells (.agg (repPs .full rep0)))
    have hl1 := h1.ltq
    have hl2 := h1.ltx
    refine vSubmit_c h1b hM fun t' s2 h2 => ?_
    have h3 := h2.setF (o' := .cells (repV t' (M.submit m.client m.sub).2.1)) (by have := h1.ext0; obtain ⟨O, T, rfl⟩ := this; simp) (by omega) (by omega) (fun y hy => by have := h1.ltF hy; omega)
    have o1 := (h2.f _ (List.mem_cons_self ..)).2
    have o2 := (h3.f _ (List.mem_cons_self ..)).2
    dsimp only at o1 o2
    have c1 := cellAt_known o1
    have c2 := cellAt_known o2
    have hq2 := h2.q
    have b2 := (h2.less.f _ (List.mem_cons_self ..)).2
    dsimp only at b2
    by_cases hw : (M.submit m.client m.sub).2.2 = 0
    · rw [if_pos hw] at hK
      repeat' (first | (simp -dsimp only [↓reduceIte, go_sem, hw, o1, c1, c2, o2]) | (refine later_intro ⟨keeps_nil, ?_⟩) | (refine build_slice E76 rfl (by decide) (by intro v hv; simp at hv; subst hv; simp [go_sem]) ?_) | fail)
      refine send_c (L := [(t', .full, replyM (M.submit m.client m.sub).2.1)]) (by simp) fun s4 t4 hx4 => ?_
      repeat' (simp -dsimp only [↓reduceIte, go_sem])
      exact hK _ _ _ (by simp) (h3.ext hx4).less.less
    · rw [if_neg hw] at hK
      repeat' (first | (simp -dsimp only [↓reduceIte, go_sem, hw, o1, c1, c2]) | (refine later_intro ⟨keeps_nil, ?_⟩) | (refine guardV_split (fun h => ?_) (fun h => ?_) <;> (try rw [h]) <;> (try simp at h) <;> (try (exfalso; omega))) | fail)
      exact hK _ .full [] rfl h3.less.less
end
section
variable {σ0 s : AST} {A : Ads} {n : Int} {M N : Reg} {B C : List Blob} {F : List (Nat × AObj)} {c : Int} {b : List UInt8} {K : AV → AST → Prop}
theorem on_c (h : Sv σ0 s A n M N B C F) (hn : M.n = n) (hM : M.Ok) (hB : BOk B)
    (hK : ∀ s' tk L', L'.map (·.2.2) = onL M B c b → Sv σ0 s' A n (onR M c b) N (onB M B c b) C F → K (.slice tk ((sentL L').map AV.str)) s') :
    TCalls Tryz.prog 12 [.ptr (some (A.q, [])), .int .i64 c, .str b] s K := by
  have hq := h.q
  have cq := cellAt_known hq
  have none_ : ∀ s', Ext s s' → onR M c b = M ∧ onB M B c b = B ∧ onL M B c b = [] → K (.slice .full []) s' := fun s' hx e => by
    have := hK s' .full [] (by rw [e.2.2]; rfl)
    rw [e.1, e.2.1] at this
    exact this (h.ext hx)
  by_cases hc0 : c < 0
  · have hd : ¬ heard M c b := fun e => by have := e.1.1; omega
    refine tcalls_walk Tryz.f12 _ [.tmp 6] Tryz.func12 rfl rfl rfl mixed (Nat.le_of_ble_eq_true rfl) rfl fun hlen => ?_
    repeat' (simp -dsimp only [↓reduceIte, go_sem, cq, hc0])
    exact none_ _ (Ext.refl _) (on_deaf hd)
  by_cases hcn : c ≥ n
  · have hd : ¬ heard M c b := fun e => by have := e.1.2; omega
    refine tcalls_walk Tryz.f12 _ [.tmp 6] Tryz.func12 rfl rfl rfl mixed (Nat.le_of_ble_eq_true rfl) rfl fun hlen => ?_
    repeat' (simp -dsimp only [↓reduceIte, go_sem, cq, hc0, hcn, decide_false])
    exact none_ _ (Ext.refl _) (on_deaf hd)
  have hhas : M.has c := ⟨by omega, by omega⟩
  by_cases he : (getR b).2 = 0
  rotate_left
  · have hd : ¬ heard M c b := fun e => he e.2
    refine tcalls_walk Tryz.f12 _ [.tmp 6] Tryz.func12 rfl rfl rfl mixed (Nat.le_of_ble_eq_true rfl) rfl fun hlen => ?_
    repeat' (simp -dsimp only [↓reduceIte, go_sem, cq, hc0, hcn, decide_false])
    refine get_c fun t u => ?_
    repeat' (first | (simp -dsimp only [↓reduceIte, go_sem, he]) | (refine guardV_split (fun h => ?_) (fun h => ?_) <;> (try rw [h]) <;> (try simp at h) <;> (try (exfalso; omega))) | fail)
    all_goals exact none_ _ (Ext.app _ _) (on_deaf hd)
  have hd : heard M c b := ⟨hhas, he⟩
  by_cases hm : mineB c (getR b).1 = true
  rotate_left
  · have hm' : mineB c (getR b).1 = false := by simpa using hm
    refine tcalls_walk Tryz.f12 _ [.tmp 6] Tryz.func12 rfl rfl rfl mixed (Nat.le_of_ble_eq_true rfl) rfl fun hlen => ?_
    repeat' (simp -dsimp only [↓reduceIte, go_sem, cq, hc0, hcn, decide_false])
    refine get_c fun t u => ?_
    repeat' (first | (simp -dsimp only [↓reduceIte, go_sem, he, hm']) | ((refine mine_c ?_)) | fail)
    refine none_ _ (Ext.app _ _) (on_rest ?_ ?_ ?_ ?_ ?_)
    all_goals
      intro hh
      unfold mineB at hm'
    · rw [if_neg (by omega), if_neg (by omega)] at hm'; simp [hh.2] at hm'
    · rw [if_neg (by omega), if_neg (by omega)] at hm'; simp [hh.2] at hm'
    · rw [if_pos hh.1] at hm'; simp [hh.2] at hm'
    · rw [if_neg (by omega), if_neg (by omega)] at hm'; simp [hh.2] at hm'
    · rw [if_neg (by omega), if_pos hh] at hm'; simp at hm'
  by_cases hk5 : (getR b).1.kind = 5
  · obtain ⟨e1, e2, e3⟩ := on_kind5 (B := B) hd hk5
    rw [e1, e2, e3] at hK
    have hl : (getR b).1.nums.length ≤ 900 := by have := (nums_le he (.inl hk5)).2.2; omega
    exact on_get (F := []) h.sf hc0 hcn he hm hk5 hl fun s' tk L' hL hx => hK s' tk L' hL (h.ext hx)
  have hcl : (getR b).1.kind ≠ 4 → (getR b).1.client = c := fun h4 => by
    unfold mineB at hm; rw [if_neg h4, if_neg hk5] at hm; simpa using hm
  have howner : (getR b).1.kind = 4 → (getR b).1.blob.owner = c := fun h4 => by
    unfold mineB at hm; rw [if_pos h4] at hm; simpa using hm
  have h1 := fun t u => h.box (.cells (msgV t u (getR b).1))
  generalize hsr : s.app = sap at h1
  by_cases hk1 : (getR b).1.kind = 1
  · obtain ⟨e1, e2, e3⟩ := on_kind1 (B := B) hd hk1 (hcl (by omega))
    rw [e1, e2, e3] at hK
    refine tcalls_walk Tryz.f12 _ [.tmp 6] Tryz.func12 rfl rfl rfl mixed (Nat.le_of_ble_eq_true rfl) rfl fun hlen => ?_
    repeat' (simp -dsimp only [↓reduceIte, go_sem, cq, hc0, hcn, decide_false])
    refine get_c fun t u => ?_
    have hS := h1 t u
    have cl := hcl (by omega)
    subst hsr
    generalize getR b = R at *
    repeat' (first | (simp -dsimp only [↓reduceIte, go_sem, he, hm]) | ((refine mine_c ?_)) | fail)
    refine ⟨fun x hx => ?_, later_intro ?_⟩
    · simp only [List.mem_cons, List.not_mem_nil, or_false] at hx
      rcases hx with rfl
      simp only [go_sem] <;> rfl
    repeat' (simp -dsimp only [↓reduceIte, go_sem, hk1])
    refine ⟨fun x hx => ?_, later_intro ?_⟩
    · simp only [List.mem_cons, List.not_mem_nil, or_false] at hx
      rcases hx with rfl
      simp only [go_sem] <;> rfl
    repeat' (simp -dsimp only [↓reduceIte, go_sem, hk1])
    refine onSubmit_c hS hM fun s3 tk L' hL h3 => ?_
    rw [cl] at hL h3
    repeat' (simp -dsimp only [↓reduceIte, go_sem])
    exact hK _ _ _ hL h3.less
  by_cases hk3 : (getR b).1.kind = 3
  · obtain ⟨e1, e2, e3⟩ := on_kind3 (B := B) hd hk3 (hcl (by omega))
    rw [e1, e2, e3] at hK
    refine tcalls_walk Tryz.f12 _ [.tmp 6] Tryz.func12 rfl rfl rfl mixed (Nat.le_of_ble_eq_true rfl) rfl fun hlen => ?_
    repeat' (simp -dsimp only [↓reduceIte, go_sem, cq, hc0, hcn, decide_false])
    refine get_c fun t u => ?_
    have hS := h1 t u
    have cl := hcl (by omega)
    subst hsr
    generalize getR b = R at *
    have cq1 := cellAt_known hS.q
    repeat' (first | (simp -dsimp only [↓reduceIte, go_sem, he, hm]) | ((refine mine_c ?_)) | fail)
    refine ⟨fun x hx => ?_, later_intro ?_⟩
    · simp only [List.mem_cons, List.not_mem_nil, or_false] at hx
      rcases hx with rfl
      simp only [go_sem] <;> rfl
    repeat' (first | (simp -dsimp only [↓reduceIte, go_sem, hk3, cq1]) | (with_reducible refine awp_drawT (id := 14) (.op 0 2 (.op 1 2 (.op 2 2 (.op 3 2 (.op 4 2 (.op 5 2 (.op 6 2 (.op 7 2 (.op 8 2 (.op 9 2 (.op 10 1 .nil))))))))))) (by kernel_rfl) ?_) | fail)
    refine vCommit_c hS hM fun s3 h3 => ?_
    rw [cl] at h3
    repeat' (first | (simp -dsimp only [↓reduceIte, go_sem]) | (refine later_intro ⟨keeps_nil, ?_⟩) | fail)
    exact hK _ .full [] rfl h3.less
  by_cases hk4 : (getR b).1.kind = 4
  · obtain ⟨e1, e2, e3⟩ := on_kind4 (B := B) hd hk4 (howner hk4)
    rw [e1, e2, e3] at hK
    refine tcalls_walk Tryz.f12 _ [.tmp 6] Tryz.func12 rfl rfl rfl mixed (Nat.le_of_ble_eq_true rfl) rfl fun hlen => ?_
    repeat' (simp -dsimp only [↓reduceIte, go_sem, cq, hc0, hcn, decide_false])
    refine get_c fun t u => ?_
    have hS := h1 t u
    subst hsr
    generalize getR b = R at *
    have cq1 := cellAt_known hS.q
    repeat' (first | (simp -dsimp only [↓reduceIte, go_sem, he, hm]) | ((refine mine_c ?_)) | fail)
    refine ⟨fun x hx => ?_, later_intro ?_⟩
    · simp only [List.mem_cons, List.not_mem_nil, or_false] at hx
      rcases hx with rfl
      simp only [go_sem] <;> rfl
    repeat' (first | (simp -dsimp only [↓reduceIte, go_sem, hk4, cq1]) | (with_reducible refine awp_drawT (id := 16) (.op 0 2 (.op 1 2 (.op 2 2 (.op 3 2 (.op 4 2 (.op 5 2 (.op 6 1 .nil))))))) (by kernel_rfl) ?_) | fail)
    refine vPut_c hS hB fun s3 h3 => ?_
    repeat' (first | (simp -dsimp only [↓reduceIte, go_sem]) | (refine later_intro ⟨keeps_nil, ?_⟩) | fail)
    exact hK _ .full [] rfl h3.less
  by_cases hk8 : (getR b).1.kind = 8
  · obtain ⟨e1, e2, e3⟩ := on_kind8 (B := B) hd hk8 (hcl (by omega))
    rw [e1, e2, e3] at hK
    refine tcalls_walk Tryz.f12 _ [.tmp 6] Tryz.func12 rfl rfl rfl mixed (Nat.le_of_ble_eq_true rfl) rfl fun hlen => ?_
    repeat' (simp -dsimp only [↓reduceIte, go_sem, cq, hc0, hcn, decide_false])
    refine get_c fun t u => ?_
    have hS := h1 t u
    have cl := hcl (by omega)
    subst hsr
    generalize getR b = R at *
    have cq1 := cellAt_known hS.q
    repeat' (first | (simp -dsimp only [↓reduceIte, go_sem, he, hm]) | ((refine mine_c ?_)) | fail)
    refine ⟨fun x hx => ?_, later_intro ?_⟩
    · simp only [List.mem_cons, List.not_mem_nil, or_false] at hx
      rcases hx with rfl
      simp only [go_sem] <;> rfl
    repeat' (first | (simp -dsimp only [↓reduceIte, go_sem, hk8, cq1]) | (with_reducible refine awp_drawT (id := 18) (.op 0 2 (.op 1 2 (.op 2 2 (.op 3 2 (.op 4 2 (.op 5 2 (.op 6 2 (.op 7 2 (.op 8 1 .nil))))))))) (by kernel_rfl) ?_) | fail)
    refine vPrune_c hS hB fun s3 h3 => ?_
    rw [cl] at h3
    repeat' (first | (simp -dsimp only [↓reduceIte, go_sem]) | (refine later_intro ⟨keeps_nil, ?_⟩) | fail)
    exact hK _ .full [] rfl h3.less
  · have hr := on_rest (M := M) (B := B) (c := c) (b := b) (fun e => hk1 e.1) (fun e => hk3 e.1) (fun e => hk4 e.1) (fun e => hk8 e.1) hk5
    refine tcalls_walk Tryz.f12 _ [.tmp 6] Tryz.func12 rfl rfl rfl mixed (Nat.le_of_ble_eq_true rfl) rfl fun hlen => ?_
    repeat' (simp -dsimp only [↓reduceIte, go_sem, cq, hc0, hcn, decide_false])
    refine get_c fun t u => ?_
    generalize getR b = R at *
    repeat' (first | (simp -dsimp only [↓reduceIte, go_sem, he, hm]) | ((refine mine_c ?_)) | fail)
    refine ⟨fun x hx => ?_, later_intro ?_⟩
    · simp only [List.mem_cons, List.not_mem_nil, or_false] at hx
      rcases hx with rfl
      simp only [go_sem] <;> rfl
    repeat' (first | (simp -dsimp only [↓reduceIte, go_sem, hk1, hk3, hk4, hk5, hk8]) | (refine guardV_split (fun h => ?_) (fun h => ?_) <;> (try rw [h]) <;> (try simp at h) <;> (try (exfalso; omega))) | fail)
    exact none_ _ (Ext.app _ _) hr
end
end Go.Aff.L10

