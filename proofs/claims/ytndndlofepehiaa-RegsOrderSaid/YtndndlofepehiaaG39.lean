import Derived.Test.YtndndlofepehiaaG38

set_option linter.unusedSimpArgs false
set_option linter.unusedVariables false

/- Layer 12, plainly: a submit twice; what was submitted may be submitted. -/
-- cuts
namespace Go.Aff.L10
open Go.Proofs Go.Aff Go.Aff.L01 Classical
set_option linter.unusedVariables false
namespace Reg
variable {M : Reg}
theorem cli_setC {i m : Int} {c : Cli} (h : M.Ok) (hi : M.has i) (hm : M.has m) : (M.setC i c).cli m = if m = i then c else M.cli m := by
  have h1 := h.has8 hi
  have h2 := h.has8 hm
  unfold setC cli
  simp only [List.getElem?_set]
  by_cases e : m = i
  · subst e; simp [h1]
  · have : i.toNat ≠ m.toNat := by obtain ⟨a, b⟩ := hi; obtain ⟨c, d⟩ := hm; omega
    rw [if_neg this, if_neg e]
theorem submit_twice (h : M.Ok) {n : Int} {x : Sub} : ((M.submit n x).1.submit n x).1 = (M.submit n x).1 := by
  by_cases hb : ¬ (subM n x).Ok ∨ ¬ M.has n ∨ ¬ M.has x.target
  · have e : M.submit n x = (M, rep0, 2) := by unfold submit; rw [if_pos hb]
    rw [e, e]
  · have hn : M.has n := Classical.byContradiction fun e => hb (.inr (.inl e))
    have hx : M.has x.target := Classical.byContradiction fun e => hb (.inr (.inr e))
    by_cases e1 : x.num = (M.cli n).last.num
    · by_cases e2 : x = (M.cli n).last
      · have e : M.submit n x = (M, (M.cli n).reply, 0) := by unfold submit; rw [if_neg hb, if_pos e1, if_pos e2]
        rw [e, e]
      · have e : M.submit n x = (M, rep0, 10) := by unfold submit; rw [if_neg hb, if_pos e1, if_neg e2]
        rw [e, e]
    · by_cases e3 : x.num ≠ (M.cli n).last.num + 1
      · have e : M.submit n x = (M, rep0, 3) := by unfold submit; rw [if_neg hb, if_neg e1, if_pos e3]
        rw [e, e]
      · by_cases e4 : 512 ≤ M.order.length ∨ 8 ≤ M.pend.length
        · have e : M.submit n x = (M, rep0, 11) := by unfold submit; rw [if_neg hb, if_neg e1, if_neg e3, if_pos e4]
          rw [e, e]
        · have e : M.submit n x = ({ M.setC n { M.cli n with last := x, reply := M.ans x } with pend := M.pend ++ [newP n x] }, M.ans x, 0) := by unfold submit; rw [if_neg hb, if_neg e1, if_neg e3, if_neg e4]
          rw [e]
          generalize hN : ({ M.setC n { M.cli n with last := x, reply := M.ans x } with pend := M.pend ++ [newP n x] } : Reg) = N
          have hl : N.cli n = { M.cli n with last := x, reply := M.ans x } := by
            subst hN; exact (cli_setC h hn hn).trans (if_pos rfl)
          have hnn : N.n = M.n := by subst hN; rfl
          have hb' : ¬ (¬ (subM n x).Ok ∨ ¬ N.has n ∨ ¬ N.has x.target) := by unfold has at hb ⊢; rw [hnn]; exact hb
          show (N.submit n x).1 = N
          unfold submit
          rw [if_neg hb', hl]
          simp
/-- What a client last submitted may be submitted. -/
def Sane (M : Reg) : Prop := ∀ i, M.has i → 0 < (M.cli i).last.num → (subM i (M.cli i).last).Ok ∧ M.has (M.cli i).last.target
theorem reg0_sane {n : Int} (h2 : 2 ≤ n) (h8 : n ≤ 8) : (reg0 n).Sane := by
  intro i hi hl
  exfalso
  have hm := (reg0_ok h2 h8).cli_mem hi
  have : ∀ c ∈ (reg0 n).cs, c.last.num = 0 := by
    intro c hc
    simp only [reg0] at hc
    obtain ⟨_, rfl⟩ := List.mem_replicate.1 hc
    rfl
  have := this _ hm
  omega
theorem sane_set {c : Cli} {n : Int} (h : M.Ok) (hs : M.Sane) (hn : M.has n) (hc : 0 < c.last.num → (subM n c.last).Ok ∧ M.has c.last.target) : (M.setC n c).Sane := by
  intro i hi hl
  rw [cli_setC h hn hi] at hl ⊢
  by_cases e : i = n
  · subst e; rw [if_pos rfl] at hl ⊢; exact hc hl
  · rw [if_neg e] at hl ⊢; exact hs i hi hl
theorem submit_sane (h : M.Ok) (hs : M.Sane) {n : Int} {x : Sub} : (M.submit n x).1.Sane := by
  unfold submit
  by_cases hb : ¬ (subM n x).Ok ∨ ¬ M.has n ∨ ¬ M.has x.target
  · rw [if_pos hb]; exact hs
  · rw [if_neg hb]
    have hok : (subM n x).Ok := Classical.byContradiction fun e => hb (.inl e)
    have hn : M.has n := Classical.byContradiction fun e => hb (.inr (.inl e))
    have hx : M.has x.target := Classical.byContradiction fun e => hb (.inr (.inr e))
    split
    · split <;> exact hs
    · split
      · exact hs
      · split
        · exact hs
        · exact sane_set h hs hn fun _ => ⟨hok, hx⟩
theorem commit_sane (h : M.Ok) (hs : M.Sane) {n : Int} {v : List UInt8} {t : Dig} : (M.commit n v t).1.Sane := by
  unfold commit
  by_cases hb : ¬ (comM n v t).Ok ∨ ¬ M.has n
  · rw [if_pos hb]; exact hs
  · rw [if_neg hb]
    have hn : M.has n := Classical.byContradiction fun e => hb (.inr e)
    split
    · exact hs
    · split
      · exact hs
      · split
        · exact sane_set h hs hn fun hl => hs n hn hl
        · exact sane_set h hs hn fun hl => hs n hn hl
theorem act_sane (h : M.Ok) (hs : M.Sane) {a : Act12} : (M.act a).Sane := by
  unfold act; split
  · exact commit_sane h hs
  · exact submit_sane h hs
/-- The answer again. -/
theorem submit_last (hs : M.Sane) {n : Int} {x : Sub} (hn : M.has n) (hx : x = (M.cli n).last) (h0 : 0 < x.num) : M.submit n x = (M, (M.cli n).reply, 0) := by
  subst hx
  obtain ⟨a, b⟩ := hs n hn h0
  unfold submit
  have hno : ¬ (¬ (subM n (M.cli n).last).Ok ∨ ¬ M.has n ∨ ¬ M.has (M.cli n).last.target) := fun h => h.elim (fun h => h a) fun h => h.elim (fun h => h hn) fun h => h b
  rw [if_neg hno]
  simp
end Reg
end Go.Aff.L10

/- Layer 12, walked: RegsAgain. -/
-- cuts
namespace Go.Aff.L10
open Go.Proofs Go.Aff Go.Aff.L01 Classical
set_option linter.unusedVariables false
set_option linter.unusedSimpArgs false
set_option maxRecDepth 20000
attribute [local go_sem] push_app app_app length_app cellAt_app cellAt_app0 set_app set_app0 objs_app objs_app0 List.cons_append List.nil_append List.length_cons List.length_nil List.getElem?_cons_zero List.getElem?_cons_succ List.set_cons_zero List.set_cons_succ List.length_map
attribute [-go_sem] cellAt_new
attribute [-simp] List.length_flatMap
attribute [local go_sem] Try.underlying3 Try.underlying4 Try.underlying5 Try.underlying9 Try.underlying31 Try.underlying32 Try.underlying41 Try.underlying75 Try.underlying24 Try.underlying81 subPs_0 subAt_0 subSet_0 subPs_1 subAt_1 subSet_1 subPs_2 subAt_2 subSet_2 subPs_3 subAt_3 subSet_3 subPs_4 subAt_4 subSet_4 subPs_5 subAt_5 subSet_5 sizes_sub shapes_sub fits_sub zero_sub zt_sub built_sub Try.underlying34 pendPs_0 pendAt_0 pendSet_0 pendPs_1 pendAt_1 pendSet_1 pendPs_2 pendAt_2 pendSet_2 pendPs_3 pendAt_3 pendSet_3 pendPs_4 pendAt_4 pendSet_4 pendPs_5 pendAt_5 pendSet_5 sizes_pend shapes_pend fits_pend zero_pend zt_pend built_pend Try.underlying70 repPs_0 repAt_0 repSet_0 repPs_1 repAt_1 repSet_1 repPs_2 repAt_2 repSet_2 repPs_3 repAt_3 repSet_3 repPs_4 repAt_4 repSet_4 repPs_5 repAt_5 repSet_5 repPs_6 repAt_6 repSet_6 repPs_7 repAt_7 repSet_7 repPs_8 repAt_8 repSet_8 repPs_9 repAt_9 repSet_9 sizes_rep shapes_rep fits_rep zero_rep zt_rep built_rep Try.underlying43 blobPs_0 blobAt_0 blobSet_0 blobPs_1 blobAt_1 blobSet_1 blobPs_2 blobAt_2 blobSet_2 blobPs_3 blobAt_3 blobSet_3 sizes_blob shapes_blob fits_blob zero_blob zt_blob built_blob Try.underlying74 msgPs_0 msgAt_0 msgSet_0 msgPs_1 msgAt_1 msgSet_1 msgPs_2 msgAt_2 msgSet_2 msgPs_3 msgAt_3 msgSet_3 msgPs_4 msgAt_4 msgSet_4 msgPs_5 msgAt_5 msgSet_5 msgPs_6 msgAt_6 msgSet_6 msgPs_7 msgAt_7 msgSet_7 msgPs_8 msgAt_8 msgSet_8 msgPs_9 msgAt_9 msgSet_9 sizes_msg shapes_msg fits_msg zero_msg zt_msg built_msg Try.underlying77 at_Ps_0 at_Set_0 at_Ps_1 at_Set_1 sizes_at_ shapes_at_
attribute [local go_sem] fits3 fits4 fits5 fits9 fits23 fits26 fits31 fits34 fits52 zt3 zero3 zt34 zero34 zt23 zero23 bin_sub_eql bin_pend_eql bin_pend_neq bin_blob_eql bin_dig23_eql bin_dig23_neq slice23
attribute [local go_sem ↓] blockQ_exit2
attribute [local simp] dig_ext
attribute [local go_sem] cliPs_0 cliAt_0 cliSet_0 cliPs_1 cliAt_1 cliSet_1 cliPs_2 cliAt_2 cliSet_2 cliPs_3 cliAt_3 cliSet_3 sizes_cli shapes_cli fits_cli zero_cli zt_cli built_cli actPs_0 actAt_0 actSet_0 actPs_1 actAt_1 actSet_1 actPs_2 actAt_2 actSet_2 actPs_3 actAt_3 actSet_3 actPs_4 actAt_4 actSet_4 sizes_act shapes_act fits_act zero_act zt_act built_act rgPs_0 rgPs_1 rgPs_2 rgPs_3 rgPs_4 rgPs_5 rgSet_0 rgSet_2 rgSet_3 rgSet_4 rgSet_5 rgAt_0 rgAt_1 fits_rg zero_rg zt_rg built_rg fits66 rrgPs_0 rrgSet_0 rrgAt_0 rrgPs_1 rrgSet_1 rrgAt_1 rrgPs_2 rrgSet_2 rrgAt_2 rrgPs_3 rrgSet_3 rrgAt_3 rrgPs_4 rrgSet_4 rrgAt_4 rrgPs_5 rrgSet_5 rrgAt_5 rrgPs_6 rrgSet_6 rrgAt_6 rrgPs_7 rrgSet_7 rrgAt_7 sizes_rrg shapes_rrg fits_rrg zero_rrg zt_rrg built_rrg fits57 fits58 fits39 fits59 fits23r fits41 arrV_none arrV_some arrV_size arrV_agg arrV_shape Try.underlying22 Try.underlying23 Try.underlying28 Try.underlying36 Try.underlying39 Try.underlying57 Try.underlying58 Try.underlying59 Try.underlying61 Try.underlying65 Try.underlying66 Try.underlying68 Try.underlying78
attribute [local go_sem] isAgg_arr size_arr shape_arr known_arr
theorem bOrder_c {σ0 s : AST} {j k i1 i2 i3 i4 : Nat} {M N : Reg} {F : List (Nat × AObj)} {K : AV → AST → Prop} (h : Bo σ0 s j k i1 i2 i3 i4 M N F) (hM : M.Ok) (hK : K (.str M.order) s) : TCalls Try.prog 16 [.ptr (some (j, []))] s K := by
  obtain ⟨R, rfl, hP⟩ := h.p
  exact order_c hP (ok_plain hM) hK
theorem Bo.put {σ0 s : AST} {j k i1 i2 i3 i4 c : Nat} {M N : Reg} {o o' : AObj} {F : List (Nat × AObj)} (h : Bo σ0 s j k i1 i2 i3 i4 M N ((c, o) :: F)) (hi : σ0.objs.length ≤ c) (hf : ∀ x ∈ F, x.1 ≠ c) : Bo σ0 (s.set c o') j k i1 i2 i3 i4 M N ((c, o') :: F) := by
  obtain ⟨R, hR, hP⟩ := h.p
  have hc := hP.f _ (List.mem_cons_self ..)
  have hq := h.q.f _ (List.mem_cons_self ..)
  have hl := (List.getElem?_eq_some_iff.1 hc.2).1
  exact ⟨⟨R, hR, (hP.less.setN hi hc.1.symm hf).more (objs_setS hl) hc.1⟩, (h.q.less.setN hi hq.1 hf).more (objs_setS hl) hq.1, h.jk⟩
/-- What the reference's first array holds. -/
theorem Bo.at1 {σ0 s : AST} {j k i1 i2 i3 i4 : Nat} {M N : Reg} {F : List (Nat × AObj)} (h : Bo σ0 s j k i1 i2 i3 i4 M N F) (hN : N.Ok) {n : Int} (hn : N.rm.has n) (q : List Nat) : cellAt s i1 (n.toNat :: q) = (AV.agg (subPs (N.cli n).last)).at q := by
  rw [cellAt_known h.q.o1, arr_at (f := fun x => AV.agg (subPs x)) (h.q.sub hn), Reg.rm_sub hN hn]
theorem Bo.at2 {σ0 s : AST} {j k i1 i2 i3 i4 : Nat} {M N : Reg} {F : List (Nat × AObj)} (h : Bo σ0 s j k i1 i2 i3 i4 M N F) (hN : N.Ok) {n : Int} (hn : N.rm.has n) : ∃ tr, ∀ q, cellAt s i2 (n.toNat :: q) = (AV.agg (repPs tr (N.cli n).reply)).at q := by
  obtain ⟨l2, hl2, o2⟩ := h.q.o2
  have h1 := h.q.rep hn
  rw [Reg.rm_rep hN hn, ← hl2, List.getElem?_map, Option.map_eq_some_iff] at h1
  obtain ⟨⟨p, q⟩, h2, h3⟩ := h1
  simp only at h3; subst h3
  exact ⟨p, fun q => by rw [cellAt_known o2, arr_at h2]; rfl⟩
theorem regsAgain_c {la : List AV} {ta : Tk} (ha : ∀ v ∈ la, IsAct v) {σ : AST} {K : AV → AST → Prop} (hK : ∀ s, Ext σ s → K (.bool true) s) : TCalls Try.prog 5 [.slice ta la] σ K := by
  refine tcalls_walk Try.f5 _ [.tmp 2] Try.func5 rfl rfl rfl mixed (Nat.le_of_ble_eq_true rfl) rfl fun hlen => ?_
  simp -dsimp only [↓reduceIte, go_sem]
  refine rgNew_c (fun hbad => by omega) (fun hgood s0 hP0 => ?_)
  · repeat' (first | (simp -dsimp only [↓reduceIte, go_sem]) | (refine arr_intro fun _ => ?_) | (refine later_intro ⟨keeps_nil, ?_⟩) | (refine later_intro ⟨keeps_refl, ?_⟩) | (with_reducible refine keeps_go ?_ ?_; focus (first | (simp [keeps_cons, keeps_none, objs_app, objs_app0]; done) | (simp only [keeps_cons, keeps_none, objs_app0, objs_app, and_true]; first | rfl | exact ⟨rfl, rfl⟩ | exact ⟨rfl, rfl, rfl⟩))) | (with_reducible refine (And.intro (a := keeps _ _ _) ?_ ?_); focus (first | (simp [keeps_cons, keeps_none, objs_app, objs_app0]; done) | (simp only [keeps_cons, keeps_none, objs_app0, objs_app, and_true]; first | rfl | exact ⟨rfl, rfl⟩ | exact ⟨rfl, rfl, rfl⟩))) | (refine both_ways ?_ ?_) | (rw [wrap_i64 (by omega) (by omega)]) | (refine guardV_split (fun h => ?_) (fun h => ?_) <;> (try rw [h]) <;> (try simp at h) <;> (try (exfalso; omega))))
    refine refNew_c (by omega) (by omega) fun s1 k i1 i2 i3 i4 hQ0 => ?_
    have hB0 : Bo σ s1 σ.objs.length k i1 i2 i3 i4 (reg0 4) (reg0 4) [] := Bo.mk0 hP0 hQ0
    generalize σ.objs.length = j at hB0 ⊢
    repeat' (first | (simp -dsimp only [↓reduceIte, go_sem]) | (refine arr_intro fun _ => ?_) | (refine later_intro ⟨keeps_nil, ?_⟩) | (refine later_intro ⟨keeps_refl, ?_⟩) | (with_reducible refine keeps_go ?_ ?_; focus (first | (simp [keeps_cons, keeps_none, objs_app, objs_app0]; done) | (simp only [keeps_cons, keeps_none, objs_app0, objs_app, and_true]; first | rfl | exact ⟨rfl, rfl⟩ | exact ⟨rfl, rfl, rfl⟩))) | (with_reducible refine (And.intro (a := keeps _ _ _) ?_ ?_); focus (first | (simp [keeps_cons, keeps_none, objs_app, objs_app0]; done) | (simp only [keeps_cons, keeps_none, objs_app0, objs_app, and_true]; first | rfl | exact ⟨rfl, rfl⟩ | exact ⟨rfl, rfl, rfl⟩))) | (refine both_ways ?_ ?_) | (rw [wrap_i64 (by omega) (by omega)]) | (refine guardV_split (fun h => ?_) (fun h => ?_) <;> (try rw [h]) <;> (try simp at h) <;> (try (exfalso; omega))) | (refine awake_d ?_))
    refine awp_rounds (fun (i : Nat) τ s' => ∃ M : Reg, M.Ok ∧ M.Sane ∧ Bo σ s' j k i1 i2 i3 i4 M M [] ∧ i ≤ la.length ∧ τ 0 = .slice ta la ∧ τ 3 = .ptr (some (j, [])) ∧ τ 5 = .ptr (some (k, [])) ∧ τ 6 = .int .i64 i) (fun i => la.length - i) 0 ?_ ?_
    · refine ⟨reg0 4, reg0_ok (by omega) (by omega), Reg.reg0_sane (by omega) (by omega), hB0, by omega, ?_, ?_, ?_, ?_⟩ <;> (try simp only [go_sem]) <;> (try rfl)
    · rintro i τ s ⟨M, hM, hS, hB, hi, t0, t3, t5, t6⟩
      by_cases hn : i < la.length ∧ i < 40
      · have hn1 : (i : Int) < la.length := by omega
        have hn2 : (i : Int) < 40 := by omega
        obtain ⟨v, hv, hvm⟩ := get_of_lt hn.1
        obtain ⟨a, rfl⟩ := ha v hvm
        repeat' (first | (simp -dsimp only [↓reduceIte, go_sem, t0, t3, t5, t6, hn1, hn2]) | (refine arr_intro fun _ => ?_) | (refine later_intro ⟨keeps_nil, ?_⟩) | (refine later_intro ⟨keeps_refl, ?_⟩) | (with_reducible refine keeps_go ?_ ?_; focus (first | (simp [keeps_cons, keeps_none, objs_app, objs_app0]; done) | (simp only [keeps_cons, keeps_none, objs_app0, objs_app, and_true]; first | rfl | exact ⟨rfl, rfl⟩ | exact ⟨rfl, rfl, rfl⟩))) | (with_reducible refine (And.intro (a := keeps _ _ _) ?_ ?_); focus (first | (simp [keeps_cons, keeps_none, objs_app, objs_app0]; done) | (simp only [keeps_cons, keeps_none, objs_app0, objs_app, and_true]; first | rfl | exact ⟨rfl, rfl⟩ | exact ⟨rfl, rfl, rfl⟩))) | (refine both_ways ?_ ?_) | (rw [wrap_i64 (by omega) (by omega)]) | (refine guardV_split (fun h => ?_) (fun h => ?_) <;> (try rw [h]) <;> (try simp at h) <;> (try (exfalso; omega))) | (refine nth_get hv ?_) | ((refine of_c hB.q hM ?_)))
        have h1 := hB.box (.cells (subV (M.ofA a).1))
        have hlt := hB.lt
        generalize hs1 : s.app [.cells (subV (M.ofA a).1)] = s1 at h1 ⊢
        generalize s.objs.length = b at h1 ⊢
        refine regDo_c h1 hM fun s2 h2 => ?_
        have b2 := (h2.q.f _ (List.mem_cons_self ..)).2
        simp only at b2
        have cb2 := cellAt_known b2
        have hM2 := Reg.act_ok hM (a := a)
        have hS2 := Reg.act_sane hM hS (a := a)
        have hof : ∀ x, x = (M.ofA a).1 → (M.ofA a).1 = x := fun x h => h.symm
        by_cases hc : comA a
        · repeat' (first | (simp -dsimp only [↓reduceIte, go_sem, t0, t3, t5, t6, hc]) | (refine arr_intro fun _ => ?_) | (refine later_intro ⟨keeps_nil, ?_⟩) | (refine later_intro ⟨keeps_refl, ?_⟩) | (with_reducible refine keeps_go ?_ ?_; focus (first | (simp [keeps_cons, keeps_none, objs_app, objs_app0]; done) | (simp only [keeps_cons, keeps_none, objs_app0, objs_app, and_true]; first | rfl | exact ⟨rfl, rfl⟩ | exact ⟨rfl, rfl, rfl⟩))) | (with_reducible refine (And.intro (a := keeps _ _ _) ?_ ?_); focus (first | (simp [keeps_cons, keeps_none, objs_app, objs_app0]; done) | (simp only [keeps_cons, keeps_none, objs_app0, objs_app, and_true]; first | rfl | exact ⟨rfl, rfl⟩ | exact ⟨rfl, rfl, rfl⟩))) | (refine both_ways ?_ ?_) | (rw [wrap_i64 (by omega) (by omega)]) | (refine guardV_split (fun h => ?_) (fun h => ?_) <;> (try rw [h]) <;> (try simp at h) <;> (try (exfalso; omega))) | (refine commits_c ?_) | (refine nth_get hv ?_))
          refine later_intro ⟨i + 1, by omega, M.act a, hM2, hS2, h2.less, by omega, ?_, ?_, ?_, ?_⟩ <;> (try simp only [go_sem, t0, t3, t5, t6]) <;> (try rfl)
        · have hact : M.act a = (M.submit a.client (M.ofA a).1).1 := by unfold Reg.act; rw [if_neg hc]
          have htw : ((M.act a).submit a.client (M.ofA a).1).1 = M.act a := by rw [hact]; exact Reg.submit_twice hM
          repeat' (first | (simp -dsimp only [↓reduceIte, go_sem, t0, t3, t5, t6, hc, cb2]) | (refine arr_intro fun _ => ?_) | (refine later_intro ⟨keeps_nil, ?_⟩) | (refine later_intro ⟨keeps_refl, ?_⟩) | (with_reducible refine keeps_go ?_ ?_; focus (first | (simp [keeps_cons, keeps_none, objs_app, objs_app0]; done) | (simp only [keeps_cons, keeps_none, objs_app0, objs_app, and_true]; first | rfl | exact ⟨rfl, rfl⟩ | exact ⟨rfl, rfl, rfl⟩))) | (with_reducible refine (And.intro (a := keeps _ _ _) ?_ ?_); focus (first | (simp [keeps_cons, keeps_none, objs_app, objs_app0]; done) | (simp only [keeps_cons, keeps_none, objs_app0, objs_app, and_true]; first | rfl | exact ⟨rfl, rfl⟩ | exact ⟨rfl, rfl, rfl⟩))) | (refine both_ways ?_ ?_) | (rw [wrap_i64 (by omega) (by omega)]) | (refine guardV_split (fun h => ?_) (fun h => ?_) <;> (try rw [h]) <;> (try simp at h) <;> (try (exfalso; omega))) | (refine commits_c ?_) | (refine nth_get hv ?_) | ((refine bOrder_c h2 hM2 ?_)) | (with_reducible refine awp_drawU (id := 13) (.op 0 0 (.op 1 0 (.op 2 0 (.op 3 0 (.op 4 0 (.op 5 0 (.op 6 0 (.fork 7 (.op 7 1 (.op 8 0 (.op 9 0 (.op 10 0 (.op 11 1 (.op 12 1 (.op 13 2 .nil))))))) (.op 11 1 (.cut (.op 7 1 (.op 8 2 (.op 9 2 (.op 10 0 (.op 12 1 (.op 13 2 .nil)))))))))))))))) (by kernel_rfl) ?_))
          · refine bSubmit_c h2 hM2 fun t s3 h3 => ?_
            rw [htw] at h3
            have b3 := (h3.q.f _ (List.mem_cons_self ..)).2
            simp only at b3
            have b3A := fun l => objs_known_app b3 l
            have h4 := h3.box (.cells (repV t ((M.act a).submit a.client (M.ofA a).1).2.1))
            have b4 := (h4.q.f _ (List.mem_cons_of_mem _ (List.mem_cons_self ..))).2
            have c4 := (h4.q.f _ (List.mem_cons_self ..)).2
            simp only at b4 c4
            by_cases hh : (M.act a).rm.has a.client
            · have hh0 : 0 ≤ a.client := hh.1
              have hh1 : a.client < (M.act a).rm.n := hh.2
              by_cases he : ((M.act a).cli a.client).last = (M.ofA a).1
              · by_cases h0 : 0 < (M.ofA a).1.num
                · have hl := Reg.submit_last hS2 hh he.symm h0
                  rw [hl] at h4 b4 c4 ⊢
                  dsimp only at h4 b4 c4
                  obtain ⟨tk0, o0⟩ := h4.q.o; have ck := cellAt_known o0; have cb4 := cellAt_known b4
                  have cc4 := cellAt_known c4; have A1 := h4.at1 hM2 hh; obtain ⟨tr, A2⟩ := h4.at2 hM2 hh
                  repeat' (first | (simp -dsimp only [↓reduceIte, go_sem, t0, t3, t5, t6, ck, cb4, cc4, hh0, hh1, A1, A2, he, h0]) | (refine arr_intro fun _ => ?_) | (refine later_intro ⟨keeps_nil, ?_⟩) | (refine later_intro ⟨keeps_refl, ?_⟩) | (with_reducible refine keeps_go ?_ ?_; focus (first | (simp [keeps_cons, keeps_none, objs_app, objs_app0]; done) | (simp only [keeps_cons, keeps_none, objs_app0, objs_app, and_true]; first | rfl | exact ⟨rfl, rfl⟩ | exact ⟨rfl, rfl, rfl⟩))) | (with_reducible refine (And.intro (a := keeps _ _ _) ?_ ?_); focus (first | (simp [keeps_cons, keeps_none, objs_app, objs_app0]; done) | (simp only [keeps_cons, keeps_none, objs_app0, objs_app, and_true]; first | rfl | exact ⟨rfl, rfl⟩ | exact ⟨rfl, rfl, rfl⟩))) | (refine both_ways ?_ ?_) | (rw [wrap_i64 (by omega) (by omega)]) | (refine guardV_split (fun h => ?_) (fun h => ?_) <;> (try rw [h]) <;> (try simp at h) <;> (try (exfalso; omega))) | (with_reducible refine keeps_go ?_ ?_; focus (simp [keeps_cons, keeps_none, objs_app, objs_app0, b3, b2, b3A]; done)) | (with_reducible refine (And.intro (a := keeps _ _ _) ?_ ?_); focus (simp [keeps_cons, keeps_none, objs_app, objs_app0, b3, b2, b3A]; done)) | (refine nth_get hv ?_) | (with_reducible refine awp_drawT (id := 14) (.op 0 2 (.op 1 2 (.op 2 2 (.op 3 2 (.op 4 2 (.op 5 2 (.op 6 1 (.op 7 2 (.op 8 2 (.op 9 2 (.op 10 2 (.op 11 2 (.op 12 2 (.op 13 2 (.op 14 2 (.op 15 2 (.op 16 2 (.op 17 2 (.op 18 2 (.op 19 2 (.op 20 2 (.op 21 2 (.op 22 2 (.op 23 2 (.op 24 2 (.op 25 2 (.op 26 2 (.op 27 2 (.op 28 2 (.op 29 2 (.op 30 2 (.op 31 2 (.op 32 2 (.op 33 2 (.op 34 2 (.op 35 2 (.op 36 2 (.op 37 2 (.op 38 2 (.op 39 2 (.op 40 2 (.op 41 2 (.op 42 2 (.op 43 3 (.op 44 2 (.op 45 2 (.op 46 2 (.op 47 2 (.op 48 2 (.op 50 0 (.op 49 1 (.op 51 2 (.op 52 2 .nil))))))))))))))))))))))))))))))))))))))))))))))))))))) (by kernel_rfl) ?_) | ((refine refIs_c h4.q ?_)) | (refine idx1 h4.q hh ?_) | (refine idx2 h4.q hh ?_) | ((refine refSameReply_c ?_)) | ((refine bOrder_c h4 hM2 ?_)))
                  refine later_intro ⟨i + 1, by omega, M.act a, hM2, hS2, h4.less.less, by omega, ?_, ?_, ?_, ?_⟩ <;> (try simp only [go_sem, t0, t3, t5, t6]) <;> (try rfl)
                · obtain ⟨tk0, o0⟩ := h4.q.o; have ck := cellAt_known o0; have cb4 := cellAt_known b4
                  have cc4 := cellAt_known c4; have A1 := h4.at1 hM2 hh; obtain ⟨tr, A2⟩ := h4.at2 hM2 hh
                  repeat' (first | (simp -dsimp only [↓reduceIte, go_sem, t0, t3, t5, t6, ck, cb4, cc4, hh0, hh1, A1, he, h0]) | (refine arr_intro fun _ => ?_) | (refine later_intro ⟨keeps_nil, ?_⟩) | (refine later_intro ⟨keeps_refl, ?_⟩) | (with_reducible refine keeps_go ?_ ?_; focus (first | (simp [keeps_cons, keeps_none, objs_app, objs_app0]; done) | (simp only [keeps_cons, keeps_none, objs_app0, objs_app, and_true]; first | rfl | exact ⟨rfl, rfl⟩ | exact ⟨rfl, rfl, rfl⟩))) | (with_reducible refine (And.intro (a := keeps _ _ _) ?_ ?_); focus (first | (simp [keeps_cons, keeps_none, objs_app, objs_app0]; done) | (simp only [keeps_cons, keeps_none, objs_app0, objs_app, and_true]; first | rfl | exact ⟨rfl, rfl⟩ | exact ⟨rfl, rfl, rfl⟩))) | (refine both_ways ?_ ?_) | (rw [wrap_i64 (by omega) (by omega)]) | (refine guardV_split (fun h => ?_) (fun h => ?_) <;> (try rw [h]) <;> (try simp at h) <;> (try (exfalso; omega))) | (with_reducible refine keeps_go ?_ ?_; focus (simp [keeps_cons, keeps_none, objs_app, objs_app0, b3, b2, b3A]; done)) | (with_reducible refine (And.intro (a := keeps _ _ _) ?_ ?_); focus (simp [keeps_cons, keeps_none, objs_app, objs_app0, b3, b2, b3A]; done)) | (refine nth_get hv ?_) | (with_reducible refine awp_drawT (id := 14) (.op 0 2 (.op 1 2 (.op 2 2 (.op 3 2 (.op 4 2 (.op 5 2 (.op 6 1 (.op 7 2 (.op 8 2 (.op 9 2 (.op 10 2 (.op 11 2 (.op 12 2 (.op 13 2 (.op 14 2 (.op 15 2 (.op 16 2 (.op 17 2 (.op 18 2 (.op 19 2 (.op 20 2 (.op 21 2 (.op 22 2 (.op 23 2 (.op 24 2 (.op 25 2 (.op 26 2 (.op 27 2 (.op 28 2 (.op 29 2 (.op 30 2 (.op 31 2 (.op 32 2 (.op 33 2 (.op 34 2 (.op 35 2 (.op 36 2 (.op 37 2 (.op 38 2 (.op 39 2 (.op 40 2 (.op 41 2 (.op 42 2 (.op 43 3 (.op 44 2 (.op 45 2 (.op 46 2 (.op 47 2 (.op 48 2 (.op 50 0 (.op 49 1 (.op 51 2 (.op 52 2 .nil))))))))))))))))))))))))))))))))))))))))))))))))))))) (by kernel_rfl) ?_) | ((refine refIs_c h4.q ?_)) | (refine idx1 h4.q hh ?_) | ((refine bOrder_c h4 hM2 ?_)))
                  refine later_intro ⟨i + 1, by omega, M.act a, hM2, hS2, h4.less.less, by omega, ?_, ?_, ?_, ?_⟩ <;> (try simp only [go_sem, t0, t3, t5, t6]) <;> (try rfl)
              · obtain ⟨tk0, o0⟩ := h4.q.o; have ck := cellAt_known o0; have cb4 := cellAt_known b4
                have cc4 := cellAt_known c4; have A1 := h4.at1 hM2 hh
                repeat' (first | (simp -dsimp only [↓reduceIte, go_sem, t0, t3, t5, t6, ck, cb4, cc4, hh0, hh1, A1, he]) | (refine arr_intro fun _ => ?_) | (refine later_intro ⟨keeps_nil, ?_⟩) | (refine later_intro ⟨keeps_refl, ?_⟩) | (with_reducible refine keeps_go ?_ ?_; focus (first | (simp [keeps_cons, keeps_none, objs_app, objs_app0]; done) | (simp only [keeps_cons, keeps_none, objs_app0, objs_app, and_true]; first | rfl | exact ⟨rfl, rfl⟩ | exact ⟨rfl, rfl, rfl⟩))) | (with_reducible refine (And.intro (a := keeps _ _ _) ?_ ?_); focus (first | (simp [keeps_cons, keeps_none, objs_app, objs_app0]; done) | (simp only [keeps_cons, keeps_none, objs_app0, objs_app, and_true]; first | rfl | exact ⟨rfl, rfl⟩ | exact ⟨rfl, rfl, rfl⟩))) | (refine both_ways ?_ ?_) | (rw [wrap_i64 (by omega) (by omega)]) | (refine guardV_split (fun h => ?_) (fun h => ?_) <;> (try rw [h]) <;> (try simp at h) <;> (try (exfalso; omega))) | (with_reducible refine keeps_go ?_ ?_; focus (simp [keeps_cons, keeps_none, objs_app, objs_app0, b3, b2, b3A]; done)) | (with_reducible refine (And.intro (a := keeps _ _ _) ?_ ?_); focus (simp [keeps_cons, keeps_none, objs_app, objs_app0, b3, b2, b3A]; done)) | (refine nth_get hv ?_) | (with_reducible refine awp_drawT (id := 14) (.op 0 2 (.op 1 2 (.op 2 2 (.op 3 2 (.op 4 2 (.op 5 2 (.op 6 1 (.op 7 2 (.op 8 2 (.op 9 2 (.op 10 2 (.op 11 2 (.op 12 2 (.op 13 2 (.op 14 2 (.op 15 2 (.op 16 2 (.op 17 2 (.op 18 2 (.op 19 2 (.op 20 2 (.op 21 2 (.op 22 2 (.op 23 2 (.op 24 2 (.op 25 2 (.op 26 2 (.op 27 2 (.op 28 2 (.op 29 2 (.op 30 2 (.op 31 2 (.op 32 2 (.op 33 2 (.op 34 2 (.op 35 2 (.op 36 2 (.op 37 2 (.op 38 2 (.op 39 2 (.op 40 2 (.op 41 2 (.op 42 2 (.op 43 3 (.op 44 2 (.op 45 2 (.op 46 2 (.op 47 2 (.op 48 2 (.op 50 0 (.op 49 1 (.op 51 2 (.op 52 2 .nil))))))))))))))))))))))))))))))))))))))))))))))))))))) (by kernel_rfl) ?_) | ((refine refIs_c h4.q ?_)) | (refine idx1 h4.q hh ?_) | ((refine bOrder_c h4 hM2 ?_)))
                refine later_intro ⟨i + 1, by omega, M.act a, hM2, hS2, h4.less.less, by omega, ?_, ?_, ?_, ?_⟩ <;> (try simp only [go_sem, t0, t3, t5, t6]) <;> (try rfl)
            · obtain ⟨tk0, o0⟩ := h4.q.o; have ck := cellAt_known o0; have cb4 := cellAt_known b4
              have cc4 := cellAt_known c4
              have hh2 : ¬ (0 ≤ a.client ∧ a.client < (M.act a).rm.n) := hh
              repeat' (first | (simp -dsimp only [↓reduceIte, go_sem, t0, t3, t5, t6, ck, cb4, cc4, hh2]) | (refine arr_intro fun _ => ?_) | (refine later_intro ⟨keeps_nil, ?_⟩) | (refine later_intro ⟨keeps_refl, ?_⟩) | (with_reducible refine keeps_go ?_ ?_; focus (first | (simp [keeps_cons, keeps_none, objs_app, objs_app0]; done) | (simp only [keeps_cons, keeps_none, objs_app0, objs_app, and_true]; first | rfl | exact ⟨rfl, rfl⟩ | exact ⟨rfl, rfl, rfl⟩))) | (with_reducible refine (And.intro (a := keeps _ _ _) ?_ ?_); focus (first | (simp [keeps_cons, keeps_none, objs_app, objs_app0]; done) | (simp only [keeps_cons, keeps_none, objs_app0, objs_app, and_true]; first | rfl | exact ⟨rfl, rfl⟩ | exact ⟨rfl, rfl, rfl⟩))) | (refine both_ways ?_ ?_) | (rw [wrap_i64 (by omega) (by omega)]) | (refine guardV_split (fun h => ?_) (fun h => ?_) <;> (try rw [h]) <;> (try simp at h) <;> (try (exfalso; omega))) | (with_reducible refine keeps_go ?_ ?_; focus (simp [keeps_cons, keeps_none, objs_app, objs_app0, b3, b2, b3A]; done)) | (with_reducible refine (And.intro (a := keeps _ _ _) ?_ ?_); focus (simp [keeps_cons, keeps_none, objs_app, objs_app0, b3, b2, b3A]; done)) | (refine nth_get hv ?_) | (with_reducible refine awp_drawT (id := 14) (.op 0 2 (.op 1 2 (.op 2 2 (.op 3 2 (.op 4 2 (.op 5 2 (.op 6 1 (.op 7 2 (.op 8 2 (.op 9 2 (.op 10 2 (.op 11 2 (.op 12 2 (.op 13 2 (.op 14 2 (.op 15 2 (.op 16 2 (.op 17 2 (.op 18 2 (.op 19 2 (.op 20 2 (.op 21 2 (.op 22 2 (.op 23 2 (.op 24 2 (.op 25 2 (.op 26 2 (.op 27 2 (.op 28 2 (.op 29 2 (.op 30 2 (.op 31 2 (.op 32 2 (.op 33 2 (.op 34 2 (.op 35 2 (.op 36 2 (.op 37 2 (.op 38 2 (.op 39 2 (.op 40 2 (.op 41 2 (.op 42 2 (.op 43 3 (.op 44 2 (.op 45 2 (.op 46 2 (.op 47 2 (.op 48 2 (.op 50 0 (.op 49 1 (.op 51 2 (.op 52 2 .nil))))))))))))))))))))))))))))))))))))))))))))))))))))) (by kernel_rfl) ?_) | ((refine refIs_c h4.q ?_)) | ((refine bOrder_c h4 hM2 ?_)))
              refine later_intro ⟨i + 1, by omega, M.act a, hM2, hS2, h4.less.less, by omega, ?_, ?_, ?_, ?_⟩ <;> (try simp only [go_sem, t0, t3, t5, t6]) <;> (try rfl)
          · have b2A := fun l => objs_known_app b2 l
            have h5 := h2.box (.cells (repV .full rep0))
            have hb2 : b < s2.objs.length := (List.getElem?_eq_some_iff.1 b2).1
            have hl2 : σ.objs.length ≤ s2.objs.length := by obtain ⟨O, T, rfl⟩ := h2.q.x; simp
            repeat' (first | (simp -dsimp only [↓reduceIte, go_sem]) | (refine arr_intro fun _ => ?_) | (refine later_intro ⟨keeps_nil, ?_⟩) | (refine later_intro ⟨keeps_refl, ?_⟩) | (with_reducible refine keeps_go ?_ ?_; focus (first | (simp [keeps_cons, keeps_none, objs_app, objs_app0]; done) | (simp only [keeps_cons, keeps_none, objs_app0, objs_app, and_true]; first | rfl | exact ⟨rfl, rfl⟩ | exact ⟨rfl, rfl, rfl⟩))) | (with_reducible refine (And.intro (a := keeps _ _ _) ?_ ?_); focus (first | (simp [keeps_cons, keeps_none, objs_app, objs_app0]; done) | (simp only [keeps_cons, keeps_none, objs_app0, objs_app, and_true]; first | rfl | exact ⟨rfl, rfl⟩ | exact ⟨rfl, rfl, rfl⟩))) | (refine both_ways ?_ ?_) | (rw [wrap_i64 (by omega) (by omega)]) | (refine guardV_split (fun h => ?_) (fun h => ?_) <;> (try rw [h]) <;> (try simp at h) <;> (try (exfalso; omega))) | (with_reducible refine keeps_go ?_ ?_; focus (simp [keeps_cons, keeps_none, objs_app, objs_app0, b2, b2A]; done)) | (with_reducible refine (And.intro (a := keeps _ _ _) ?_ ?_); focus (simp [keeps_cons, keeps_none, objs_app, objs_app0, b2, b2A]; done)))
            refine bSubmit_c h5 hM2 fun t s3 h3 => ?_
            rw [htw] at h3
            have h4 := h3.put (o' := .cells (repV t ((M.act a).submit a.client (M.ofA a).1).2.1)) hl2 (fun x hx => by simp only [List.mem_cons, List.not_mem_nil, or_false] at hx; subst hx; exact Nat.ne_of_lt hb2)
            have b3 := (h3.q.f _ (List.mem_cons_of_mem _ (List.mem_cons_self ..))).2
            have b4 := (h4.q.f _ (List.mem_cons_of_mem _ (List.mem_cons_self ..))).2
            have c4 := (h4.q.f _ (List.mem_cons_self ..)).2
            have c3 := (h3.q.f _ (List.mem_cons_self ..)).2
            simp only at b4 c4 b3 c3
            have cc3 := cellAt_known c3
            by_cases hh : (M.act a).rm.has a.client
            · have hh0 : 0 ≤ a.client := hh.1
              have hh1 : a.client < (M.act a).rm.n := hh.2
              by_cases he : ((M.act a).cli a.client).last = (M.ofA a).1
              · by_cases h0 : 0 < (M.ofA a).1.num
                · have hl := Reg.submit_last hS2 hh he.symm h0
                  rw [hl] at h4 b4 c4 ⊢
                  dsimp only at h4 b4 c4
                  obtain ⟨tk0, o0⟩ := h4.q.o; have ck := cellAt_known o0; have cb4 := cellAt_known b4
                  have cc4 := cellAt_known c4; have A1 := h4.at1 hM2 hh; obtain ⟨tr, A2⟩ := h4.at2 hM2 hh
                  repeat' (first | (simp -dsimp only [↓reduceIte, go_sem, t0, t3, t5, t6, c3, cc3, ck, cb4, cc4, hh0, hh1, A1, A2, he, h0]) | (refine arr_intro fun _ => ?_) | (refine later_intro ⟨keeps_nil, ?_⟩) | (refine later_intro ⟨keeps_refl, ?_⟩) | (with_reducible refine keeps_go ?_ ?_; focus (first | (simp [keeps_cons, keeps_none, objs_app, objs_app0]; done) | (simp only [keeps_cons, keeps_none, objs_app0, objs_app, and_true]; first | rfl | exact ⟨rfl, rfl⟩ | exact ⟨rfl, rfl, rfl⟩))) | (with_reducible refine (And.intro (a := keeps _ _ _) ?_ ?_); focus (first | (simp [keeps_cons, keeps_none, objs_app, objs_app0]; done) | (simp only [keeps_cons, keeps_none, objs_app0, objs_app, and_true]; first | rfl | exact ⟨rfl, rfl⟩ | exact ⟨rfl, rfl, rfl⟩))) | (refine both_ways ?_ ?_) | (rw [wrap_i64 (by omega) (by omega)]) | (refine guardV_split (fun h => ?_) (fun h => ?_) <;> (try rw [h]) <;> (try simp at h) <;> (try (exfalso; omega))) | (with_reducible refine keeps_go ?_ ?_; focus (simp [keeps_cons, keeps_none, objs_app, objs_app0, b3, b2, b2A]; done)) | (with_reducible refine (And.intro (a := keeps _ _ _) ?_ ?_); focus (simp [keeps_cons, keeps_none, objs_app, objs_app0, b3, b2, b2A]; done)) | (refine nth_get hv ?_) | (with_reducible refine awp_drawT (id := 14) (.op 0 2 (.op 1 2 (.op 2 2 (.op 3 2 (.op 4 2 (.op 5 2 (.op 6 1 (.op 7 2 (.op 8 2 (.op 9 2 (.op 10 2 (.op 11 2 (.op 12 2 (.op 13 2 (.op 14 2 (.op 15 2 (.op 16 2 (.op 17 2 (.op 18 2 (.op 19 2 (.op 20 2 (.op 21 2 (.op 22 2 (.op 23 2 (.op 24 2 (.op 25 2 (.op 26 2 (.op 27 2 (.op 28 2 (.op 29 2 (.op 30 2 (.op 31 2 (.op 32 2 (.op 33 2 (.op 34 2 (.op 35 2 (.op 36 2 (.op 37 2 (.op 38 2 (.op 39 2 (.op 40 2 (.op 41 2 (.op 42 2 (.op 43 3 (.op 44 2 (.op 45 2 (.op 46 2 (.op 47 2 (.op 48 2 (.op 50 0 (.op 49 1 (.op 51 2 (.op 52 2 .nil))))))))))))))))))))))))))))))))))))))))))))))))))))) (by kernel_rfl) ?_) | ((refine refIs_c h4.q ?_)) | (refine idx1 h4.q hh ?_) | (refine idx2 h4.q hh ?_) | ((refine refSameReply_c ?_)) | ((refine bOrder_c h4 hM2 ?_)))
                  refine later_intro ⟨i + 1, by omega, M.act a, hM2, hS2, h4.less.less, by omega, ?_, ?_, ?_, ?_⟩ <;> (try simp only [go_sem, t0, t3, t5, t6]) <;> (try rfl)
                · obtain ⟨tk0, o0⟩ := h4.q.o; have ck := cellAt_known o0; have cb4 := cellAt_known b4
                  have cc4 := cellAt_known c4; have A1 := h4.at1 hM2 hh; obtain ⟨tr, A2⟩ := h4.at2 hM2 hh
                  repeat' (first | (simp -dsimp only [↓reduceIte, go_sem, t0, t3, t5, t6, c3, cc3, ck, cb4, cc4, hh0, hh1, A1, he, h0]) | (refine arr_intro fun _ => ?_) | (refine later_intro ⟨keeps_nil, ?_⟩) | (refine later_intro ⟨keeps_refl, ?_⟩) | (with_reducible refine keeps_go ?_ ?_; focus (first | (simp [keeps_cons, keeps_none, objs_app, objs_app0]; done) | (simp only [keeps_cons, keeps_none, objs_app0, objs_app, and_true]; first | rfl | exact ⟨rfl, rfl⟩ | exact ⟨rfl, rfl, rfl⟩))) | (with_reducible refine (And.intro (a := keeps _ _ _) ?_ ?_); focus (first | (simp [keeps_cons, keeps_none, objs_app, objs_app0]; done) | (simp only [keeps_cons, keeps_none, objs_app0, objs_app, and_true]; first | rfl | exact ⟨rfl, rfl⟩ | exact ⟨rfl, rfl, rfl⟩))) | (refine both_ways ?_ ?_) | (rw [wrap_i64 (by omega) (by omega)]) | (refine guardV_split (fun h => ?_) (fun h => ?_) <;> (try rw [h]) <;> (try simp at h) <;> (try (exfalso; omega))) | (with_reducible refine keeps_go ?_ ?_; focus (simp [keeps_cons, keeps_none, objs_app, objs_app0, b3, b2, b2A]; done)) | (with_reducible refine (And.intro (a := keeps _ _ _) ?_ ?_); focus (simp [keeps_cons, keeps_none, objs_app, objs_app0, b3, b2, b2A]; done)) | (refine nth_get hv ?_) | (with_reducible refine awp_drawT (id := 14) (.op 0 2 (.op 1 2 (.op 2 2 (.op 3 2 (.op 4 2 (.op 5 2 (.op 6 1 (.op 7 2 (.op 8 2 (.op 9 2 (.op 10 2 (.op 11 2 (.op 12 2 (.op 13 2 (.op 14 2 (.op 15 2 (.op 16 2 (.op 17 2 (.op 18 2 (.op 19 2 (.op 20 2 (.op 21 2 (.op 22 2 (.op 23 2 (.op 24 2 (.op 25 2 (.op 26 2 (.op 27 2 (.op 28 2 (.op 29 2 (.op 30 2 (.op 31 2 (.op 32 2 (.op 33 2 (.op 34 2 (.op 35 2 (.op 36 2 (.op 37 2 (.op 38 2 (.op 39 2 (.op 40 2 (.op 41 2 (.op 42 2 (.op 43 3 (.op 44 2 (.op 45 2 (.op 46 2 (.op 47 2 (.op 48 2 (.op 50 0 (.op 49 1 (.op 51 2 (.op 52 2 .nil))))))))))))))))))))))))))))))))))))))))))))))))))))) (by kernel_rfl) ?_) | ((refine refIs_c h4.q ?_)) | (refine idx1 h4.q hh ?_) | ((refine bOrder_c h4 hM2 ?_)))
                  refine later_intro ⟨i + 1, by omega, M.act a, hM2, hS2, h4.less.less, by omega, ?_, ?_, ?_, ?_⟩ <;> (try simp only [go_sem, t0, t3, t5, t6]) <;> (try rfl)
              · obtain ⟨tk0, o0⟩ := h4.q.o; have ck := cellAt_known o0; have cb4 := cellAt_known b4
                have cc4 := cellAt_known c4; have A1 := h4.at1 hM2 hh
                repeat' (first | (simp -dsimp only [↓reduceIte, go_sem, t0, t3, t5, t6, c3, cc3, ck, cb4, cc4, hh0, hh1, A1, he]) | (refine arr_intro fun _ => ?_) | (refine later_intro ⟨keeps_nil, ?_⟩) | (refine later_intro ⟨keeps_refl, ?_⟩) | (with_reducible refine keeps_go ?_ ?_; focus (first | (simp [keeps_cons, keeps_none, objs_app, objs_app0]; done) | (simp only [keeps_cons, keeps_none, objs_app0, objs_app, and_true]; first | rfl | exact ⟨rfl, rfl⟩ | exact ⟨rfl, rfl, rfl⟩))) | (with_reducible refine (And.intro (a := keeps _ _ _) ?_ ?_); focus (first | (simp [keeps_cons, keeps_none, objs_app, objs_app0]; done) | (simp only [keeps_cons, keeps_none, objs_app0, objs_app, and_true]; first | rfl | exact ⟨rfl, rfl⟩ | exact ⟨rfl, rfl, rfl⟩))) | (refine both_ways ?_ ?_) | (rw [wrap_i64 (by omega) (by omega)]) | (refine guardV_split (fun h => ?_) (fun h => ?_) <;> (try rw [h]) <;> (try simp at h) <;> (try (exfalso; omega))) | (with_reducible refine keeps_go ?_ ?_; focus (simp [keeps_cons, keeps_none, objs_app, objs_app0, b3, b2, b2A]; done)) | (with_reducible refine (And.intro (a := keeps _ _ _) ?_ ?_); focus (simp [keeps_cons, keeps_none, objs_app, objs_app0, b3, b2, b2A]; done)) | (refine nth_get hv ?_) | (with_reducible refine awp_drawT (id := 14) (.op 0 2 (.op 1 2 (.op 2 2 (.op 3 2 (.op 4 2 (.op 5 2 (.op 6 1 (.op 7 2 (.op 8 2 (.op 9 2 (.op 10 2 (.op 11 2 (.op 12 2 (.op 13 2 (.op 14 2 (.op 15 2 (.op 16 2 (.op 17 2 (.op 18 2 (.op 19 2 (.op 20 2 (.op 21 2 (.op 22 2 (.op 23 2 (.op 24 2 (.op 25 2 (.op 26 2 (.op 27 2 (.op 28 2 (.op 29 2 (.op 30 2 (.op 31 2 (.op 32 2 (.op 33 2 (.op 34 2 (.op 35 2 (.op 36 2 (.op 37 2 (.op 38 2 (.op 39 2 (.op 40 2 (.op 41 2 (.op 42 2 (.op 43 3 (.op 44 2 (.op 45 2 (.op 46 2 (.op 47 2 (.op 48 2 (.op 50 0 (.op 49 1 (.op 51 2 (.op 52 2 .nil))))))))))))))))))))))))))))))))))))))))))))))))))))) (by kernel_rfl) ?_) | ((refine refIs_c h4.q ?_)) | (refine idx1 h4.q hh ?_) | ((refine bOrder_c h4 hM2 ?_)))
                refine later_intro ⟨i + 1, by omega, M.act a, hM2, hS2, h4.less.less, by omega, ?_, ?_, ?_, ?_⟩ <;> (try simp only [go_sem, t0, t3, t5, t6]) <;> (try rfl)
            · obtain ⟨tk0, o0⟩ := h4.q.o; have ck := cellAt_known o0; have cb4 := cellAt_known b4
              have cc4 := cellAt_known c4
              have hh2 : ¬ (0 ≤ a.client ∧ a.client < (M.act a).rm.n) := hh
              repeat' (first | (simp -dsimp only [↓reduceIte, go_sem, t0, t3, t5, t6, c3, cc3, ck, cb4, cc4, hh2]) | (refine arr_intro fun _ => ?_) | (refine later_intro ⟨keeps_nil, ?_⟩) | (refine later_intro ⟨keeps_refl, ?_⟩) | (with_reducible refine keeps_go ?_ ?_; focus (first | (simp [keeps_cons, keeps_none, objs_app, objs_app0]; done) | (simp only [keeps_cons, keeps_none, objs_app0, objs_app, and_true]; first | rfl | exact ⟨rfl, rfl⟩ | exact ⟨rfl, rfl, rfl⟩))) | (with_reducible refine (And.intro (a := keeps _ _ _) ?_ ?_); focus (first | (simp [keeps_cons, keeps_none, objs_app, objs_app0]; done) | (simp only [keeps_cons, keeps_none, objs_app0, objs_app, and_true]; first | rfl | exact ⟨rfl, rfl⟩ | exact ⟨rfl, rfl, rfl⟩))) | (refine both_ways ?_ ?_) | (rw [wrap_i64 (by omega) (by omega)]) | (refine guardV_split (fun h => ?_) (fun h => ?_) <;> (try rw [h]) <;> (try simp at h) <;> (try (exfalso; omega))) | (with_reducible refine keeps_go ?_ ?_; focus (simp [keeps_cons, keeps_none, objs_app, objs_app0, b3, b2, b2A]; done)) | (with_reducible refine (And.intro (a := keeps _ _ _) ?_ ?_); focus (simp [keeps_cons, keeps_none, objs_app, objs_app0, b3, b2, b2A]; done)) | (refine nth_get hv ?_) | (with_reducible refine awp_drawT (id := 14) (.op 0 2 (.op 1 2 (.op 2 2 (.op 3 2 (.op 4 2 (.op 5 2 (.op 6 1 (.op 7 2 (.op 8 2 (.op 9 2 (.op 10 2 (.op 11 2 (.op 12 2 (.op 13 2 (.op 14 2 (.op 15 2 (.op 16 2 (.op 17 2 (.op 18 2 (.op 19 2 (.op 20 2 (.op 21 2 (.op 22 2 (.op 23 2 (.op 24 2 (.op 25 2 (.op 26 2 (.op 27 2 (.op 28 2 (.op 29 2 (.op 30 2 (.op 31 2 (.op 32 2 (.op 33 2 (.op 34 2 (.op 35 2 (.op 36 2 (.op 37 2 (.op 38 2 (.op 39 2 (.op 40 2 (.op 41 2 (.op 42 2 (.op 43 3 (.op 44 2 (.op 45 2 (.op 46 2 (.op 47 2 (.op 48 2 (.op 50 0 (.op 49 1 (.op 51 2 (.op 52 2 .nil))))))))))))))))))))))))))))))))))))))))))))))))))))) (by kernel_rfl) ?_) | ((refine refIs_c h4.q ?_)) | ((refine bOrder_c h4 hM2 ?_)))
              refine later_intro ⟨i + 1, by omega, M.act a, hM2, hS2, h4.less.less, by omega, ?_, ?_, ?_, ?_⟩ <;> (try simp only [go_sem, t0, t3, t5, t6]) <;> (try rfl)
      · have h2 : (¬ (i : Int) < la.length ∧ True) ∨ ((i : Int) < la.length ∧ ¬ (i : Int) < 40) := by
          by_cases h : (i : Int) < la.length
          · exact .inr ⟨h, by omega⟩
          · exact .inl ⟨h, trivial⟩
        rcases h2 with ⟨hn1, hn2⟩ | ⟨hn1, hn2⟩
        all_goals
          repeat' (first | (simp -dsimp only [↓reduceIte, go_sem, t0, t3, t5, t6, hn1, hn2]) | (refine arr_intro fun _ => ?_) | (refine later_intro ⟨keeps_nil, ?_⟩) | (refine later_intro ⟨keeps_refl, ?_⟩) | (with_reducible refine keeps_go ?_ ?_; focus (first | (simp [keeps_cons, keeps_none, objs_app, objs_app0]; done) | (simp only [keeps_cons, keeps_none, objs_app0, objs_app, and_true]; first | rfl | exact ⟨rfl, rfl⟩ | exact ⟨rfl, rfl, rfl⟩))) | (with_reducible refine (And.intro (a := keeps _ _ _) ?_ ?_); focus (first | (simp [keeps_cons, keeps_none, objs_app, objs_app0]; done) | (simp only [keeps_cons, keeps_none, objs_app0, objs_app, and_true]; first | rfl | exact ⟨rfl, rfl⟩ | exact ⟨rfl, rfl, rfl⟩))) | (refine both_ways ?_ ?_) | (rw [wrap_i64 (by omega) (by omega)]) | (refine guardV_split (fun h => ?_) (fun h => ?_) <;> (try rw [h]) <;> (try simp at h) <;> (try (exfalso; omega))) | ((refine regSame_c hB hM ?_)))
          exact hK _ hB.q.x
end Go.Aff.L10

/- Layer 12: the law RegsAgain, of arguments' shapes. -/
namespace Go.Aff.L10
open Go.Proofs Go.Aff Go.Aff.L01 Classical
set_option linter.unusedVariables false
theorem regsAgain_d {σ : AST} {K : AV → AST → Prop} {la : List AV} {ta : Tk} (ha : ∀ v ∈ la, IsAct v) (hK : K (.bool true) σ) : TCalls Try.prog 5 [.slice ta la] σ K :=
  TCalls.drop (regsAgain_c ha fun s hx => ⟨hx, rfl, by simpa [AV.strip] using hK⟩)
end Go.Aff.L10

