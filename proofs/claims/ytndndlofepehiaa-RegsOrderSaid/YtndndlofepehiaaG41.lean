import Derived.Test.YtndndlofepehiaaG40

set_option linter.unusedSimpArgs false
set_option linter.unusedVariables false

/- Layer 12, walked: RegsOrder. -/
-- cuts
namespace Go.Aff.L10
open Go.Proofs Go.Aff Go.Aff.L01 Classical
set_option linter.unusedVariables false
set_option linter.unusedSimpArgs false
set_option maxRecDepth 20000
attribute [local go_sem] push_app app_app length_app cellAt_app cellAt_app0 set_app set_app0 objs_app objs_app0 List.cons_append List.nil_append List.length_cons List.length_nil List.getElem?_cons_zero List.getElem?_cons_succ List.set_cons_zero List.set_cons_succ List.length_map
attribute [-go_sem] cellAt_new
attribute [-simp] List.length_flatMap
attribute [local go_sem] Try.underlying3 Try.underlying4 Try.underlying5 Try.underlying9 Try.underlying31 Try.underlying32 Try.underlying41 Try.underlying75 Try.underlying24 Try.underlying81 subPs_0 subAt_0 subSet_0 subPs_1 subAt_1 subSet_1 subPs_2 subAt_2 subSet_2 subPs_3 subAt_3 subSet_3 subPs_4 subAt_4 subSet_4 subPs_5 subAt_5 subSet_5 sizes_sub shapes_sub fits_sub zero_sub zt_sub built_sub Try.underlying34 pendPs_0 pendAt_0 pendSet_0 pendPs_1 pendAt_1 pendSet_1 pendPs_2 pendAt_2 pendSet_2 pendPs_3 pendAt_3 pendSet_3 pendPs_4 pendAt_4 pendSet_4 pendPs_5 pendAt_5 pendSet_5 sizes_pend shapes_pend fits_pend zero_pend zt_pend built_pend Try.underlying70 repPs_0 repAt_0 repSet_0 repPs_1 repAt_1 repSet_1 repPs_2 repAt_2 repSet_2 repPs_3 repAt_3 repSet_3 repPs_4 repAt_4 repSet_4 repPs_5 repAt_5 repSet_5 repPs_6 repAt_6 repSet_6 repPs_7 repAt_7 repSet_7 repPs_8 repAt_8 repSet_8 repPs_9 repAt_9 repSet_9 sizes_rep shapes_rep fits_rep zero_rep zt_rep built_rep Try.underlying43 blobPs_0 blobAt_0 blobSet_0 blobPs_1 blobAt_1 blobSet_1 blobPs_2 blobAt_2 blobSet_2 blobPs_3 blobAt_3 blobSet_3 sizes_blob shapes_blob fits_blob zero_blob zt_blob built_blob Try.underlying74 msgPs_0 msgAt_0 msgSet_0 msgPs_1 msgAt_1 msgSet_1 msgPs_2 msgAt_2 msgSet_2 msgPs_3 msgAt_3 msgSet_3 msgPs_4 msgAt_4 msgSet_4 msgPs_5 msgAt_5 msgSet_5 msgPs_6 msgAt_6 msgSet_6 msgPs_7 msgAt_7 msgSet_7 msgPs_8 msgAt_8 msgSet_8 msgPs_9 msgAt_9 msgSet_9 sizes_msg shapes_msg fits_msg zero_msg zt_msg built_msg Try.underlying77 at_Ps_0 at_Set_0 at_Ps_1 at_Set_1 sizes_at_ shapes_at_
attribute [local go_sem] fits3 fits4 fits5 fits9 fits23 fits26 fits31 fits34 fits52 zt3 zero3 zt34 zero34 zt23 zero23 bin_sub_eql bin_pend_eql bin_pend_neq bin_blob_eql bin_dig23_eql bin_dig23_neq slice23
attribute [local go_sem ↓] blockQ_exit2
attribute [local simp] dig_ext
attribute [local go_sem] cliPs_0 cliAt_0 cliSet_0 cliPs_1 cliAt_1 cliSet_1 cliPs_2 cliAt_2 cliSet_2 cliPs_3 cliAt_3 cliSet_3 sizes_cli shapes_cli fits_cli zero_cli zt_cli built_cli actPs_0 actAt_0 actSet_0 actPs_1 actAt_1 actSet_1 actPs_2 actAt_2 actSet_2 actPs_3 actAt_3 actSet_3 actPs_4 actAt_4 actSet_4 sizes_act shapes_act fits_act zero_act zt_act built_act rgPs_0 rgPs_1 rgPs_2 rgPs_3 rgPs_4 rgPs_5 rgSet_0 rgSet_2 rgSet_3 rgSet_4 rgSet_5 rgAt_0 rgAt_1 fits_rg zero_rg zt_rg built_rg fits66 rrgPs_0 rrgSet_0 rrgAt_0 rrgPs_1 rrgSet_1 rrgAt_1 rrgPs_2 rrgSet_2 rrgAt_2 rrgPs_3 rrgSet_3 rrgAt_3 rrgPs_4 rrgSet_4 rrgAt_4 rrgPs_5 rrgSet_5 rrgAt_5 rrgPs_6 rrgSet_6 rrgAt_6 rrgPs_7 rrgSet_7 rrgAt_7 sizes_rrg shapes_rrg fits_rrg zero_rrg zt_rrg built_rrg fits57 fits58 fits39 fits59 fits23r fits41 arrV_none arrV_some arrV_size arrV_agg arrV_shape Try.underlying22 Try.underlying23 Try.underlying28 Try.underlying36 Try.underlying39 Try.underlying57 Try.underlying58 Try.underlying59 Try.underlying61 Try.underlying65 Try.underlying66 Try.underlying68 Try.underlying78
attribute [local go_sem] isAgg_arr size_arr shape_arr known_arr
theorem Reg.commit_n {M : Reg} {n : Int} {v : List UInt8} {t : Dig} : (M.commit n v t).1.n = M.n := by
  unfold Reg.commit; split
  · rfl
  · split
    · rfl
    · split
      · rfl
      · split <;> rfl
theorem Reg.submit_n {M : Reg} {n : Int} {x : Sub} : (M.submit n x).1.n = M.n := by
  unfold Reg.submit; split
  · rfl
  · split
    · split <;> rfl
    · split
      · rfl
      · split <;> rfl
theorem goes_of {a b : List UInt8} (h : b <+: a) : Go.Aff.L09.goes a b = true := decide_eq_true h
theorem regsOrder_c {m : Int} (hm0 : 0 ≤ m) (hm1 : m ≤ 255) {la : List AV} {ta : Tk} (ha : ∀ v ∈ la, IsAct v) {σ : AST} {K : AV → AST → Prop} (hK : ∀ s, Ext σ s → K (.bool true) s) : TCalls Try.prog 4 [.int .u8 m, .slice ta la] σ K := by
  refine tcalls_walk Try.f4 _ [.tmp 4] Try.func4 rfl rfl rfl mixed (Nat.le_of_ble_eq_true rfl) rfl fun hlen => ?_
  have hc0 : 0 ≤ m.tmod 7 := Int.tmod_nonneg _ hm0
  have hc1 : m.tmod 7 < 7 := Int.tmod_lt_of_pos _ (by decide)
  generalize hcm : m.tmod 7 = k0 at hc0 hc1
  have hw1 : IntKind.i64.wrap k0 = k0 := wrap_i64 (by omega) (by omega)
  have hw2 : IntKind.i64.wrap (k0 + 2) = k0 + 2 := wrap_i64 (by omega) (by omega)
  repeat' (first | (simp -dsimp only [↓reduceIte, go_sem, hcm, hw1, hw2]) | (refine arr_intro fun _ => ?_) | (refine later_intro ⟨keeps_nil, ?_⟩) | (refine later_intro ⟨keeps_refl, ?_⟩) | (with_reducible refine keeps_go ?_ ?_; focus (first | (simp [keeps_cons, keeps_none, objs_app, objs_app0]; done) | (simp only [keeps_cons, keeps_none, objs_app0, objs_app, and_true]; first | rfl | exact ⟨rfl, rfl⟩ | exact ⟨rfl, rfl, rfl⟩))) | (with_reducible refine (And.intro (a := keeps _ _ _) ?_ ?_); focus (first | (simp [keeps_cons, keeps_none, objs_app, objs_app0]; done) | (simp only [keeps_cons, keeps_none, objs_app0, objs_app, and_true]; first | rfl | exact ⟨rfl, rfl⟩ | exact ⟨rfl, rfl, rfl⟩))) | (refine both_ways ?_ ?_) | (rw [wrap_i64 (by omega) (by omega)]) | (refine guardV_split (fun h => ?_) (fun h => ?_) <;> (try rw [h]) <;> (try simp at h) <;> (try (exfalso; omega))))
  refine rgNew_c (fun hbad => by omega) (fun hgood s0 hP0 => ?_)
  generalize hj : σ.objs.length = j at hP0 ⊢
  generalize hk : k0 + 2 = k at hP0 ⊢
  have hk2 : 2 ≤ k := by omega
  have hk8 : k ≤ 8 := by omega
  repeat' (first | (simp -dsimp only [↓reduceIte, go_sem, hcm, hw1, hw2, hk]) | (refine arr_intro fun _ => ?_) | (refine later_intro ⟨keeps_nil, ?_⟩) | (refine later_intro ⟨keeps_refl, ?_⟩) | (with_reducible refine keeps_go ?_ ?_; focus (first | (simp [keeps_cons, keeps_none, objs_app, objs_app0]; done) | (simp only [keeps_cons, keeps_none, objs_app0, objs_app, and_true]; first | rfl | exact ⟨rfl, rfl⟩ | exact ⟨rfl, rfl, rfl⟩))) | (with_reducible refine (And.intro (a := keeps _ _ _) ?_ ?_); focus (first | (simp [keeps_cons, keeps_none, objs_app, objs_app0]; done) | (simp only [keeps_cons, keeps_none, objs_app0, objs_app, and_true]; first | rfl | exact ⟨rfl, rfl⟩ | exact ⟨rfl, rfl, rfl⟩))) | (refine both_ways ?_ ?_) | (rw [wrap_i64 (by omega) (by omega)]) | (refine guardV_split (fun h => ?_) (fun h => ?_) <;> (try rw [h]) <;> (try simp at h) <;> (try (exfalso; omega))) | (refine awake_d ?_) | (refine make_arr (by omega) (by omega) Try.underlying39 zt9 (by decide +kernel) (by decide +kernel) ?_))
  have hrep : List.replicate k.toNat (AV.str []) = (List.replicate k.toNat []).map .str := by simp
  have hS0 : OS σ (s0.app [.cells (.agg (List.replicate k.toNat (AV.str [])))]) j s0.objs.length (reg0 k) (List.replicate k.toNat []) [] := by
    rw [hrep]
    have hlt : j < s0.objs.length := by obtain ⟨t, o⟩ := hP0.o; exact (List.getElem?_eq_some_iff.1 o).1
    have hj1 := hP0.jn
    refine ⟨⟨⟨k, List.replicate 8 (.full, cli0), -1, [], dig0, []⟩, rfl, (hP0.ext (Ext.app _ _)).more objs_app0 (by omega)⟩, by omega⟩
  generalize s0.app [.cells (.agg (List.replicate k.toNat (AV.str [])))] = s1 at hS0 ⊢
  generalize s0.objs.length = e at hS0 ⊢
  refine awp_rounds (fun (i : Nat) τ s' => ∃ (M : Reg) (nx : List (List UInt8)) (w : List UInt8), M.Ord nx ∧ OS σ s' j e M nx [] ∧ M.n = k ∧ i ≤ la.length ∧ w <+: M.order ∧ τ 1 = .slice ta la ∧ τ 5 = .int .i64 M.n ∧ τ 6 = .ptr (some (j, [])) ∧ τ 8 = .arr e [] M.n.toNat ∧ τ 9 = .str w ∧ τ 10 = .int .i64 i) (fun i => la.length - i) 0 ?_ ?_
  · refine ⟨reg0 k, _, [], Reg.reg0_ord hk2 hk8, hS0, rfl, by omega, List.nil_prefix, ?_, ?_, ?_, ?_, ?_, ?_⟩ <;> (try simp only [go_sem, hcm, hw1, hw2, hk]) <;> (try rfl)
  · rintro i τ s ⟨M, nx, w, hI, hO, hMn, hi, hw, t1, t5, t6, t8, t9, t10⟩
    by_cases hn : i < la.length ∧ i < 60
    · have hn1 : (i : Int) < la.length := by omega
      have hn2 : (i : Int) < 60 := by omega
      obtain ⟨v0, hv0, hvm⟩ := get_of_lt hn.1
      obtain ⟨a, rfl⟩ := ha v0 hvm
      have h1 := hO.box (.cells (actV a))
      have hl0 := hO.lt
      generalize hs1 : s.app [.cells (actV a)] = s1 at h1
      have b1 := h1.f _ (List.mem_cons_self ..)
      simp only at b1
      have cb1 := cellAt_known b1
      have hlb : s.objs.length < s1.objs.length := (List.getElem?_eq_some_iff.1 b1).1
      by_cases hc : M.has a.client
      · have hca := hc.1
        have hcb := hc.2
        have hcn : a.client.toNat < nx.length := by rw [hI.nl]; omega
        obtain ⟨v, hv, _⟩ := get_of_lt hcn
        have hat := h1.at hv
        by_cases hve : v = []
        · subst hve
          have h2 := h1.box (.cells (subV a.x))
          generalize hs2 : s1.app [.cells (subV a.x)] = s2 at h2
          have hl1 := h1.lt
          have b2 := h2.f _ (List.mem_cons_of_mem _ (List.mem_cons_self ..))
          have d2 := h2.f _ (List.mem_cons_self ..)
          simp only at b2 d2
          have cb2 := cellAt_known b2
          have cd2 := cellAt_known d2
          have hnm := hI.ok.nm _ (hI.ok.cli_mem hc)
          have hwr : IntKind.i64.wrap ((M.cli a.client).last.num + 1) = (M.cli a.client).last.num + 1 := wrap_i64 (by omega) (by omega)
          repeat' (first | (simp -dsimp only [↓reduceIte, go_sem, t1, t5, t6, t8, t9, t10, hn1, hn2, hs1, hca, hcb, cb1, hat, hs2]) | (refine arr_intro fun _ => ?_) | (refine later_intro ⟨keeps_nil, ?_⟩) | (refine later_intro ⟨keeps_refl, ?_⟩) | (with_reducible refine keeps_go ?_ ?_; focus (first | (simp [keeps_cons, keeps_none, objs_app, objs_app0]; done) | (simp only [keeps_cons, keeps_none, objs_app0, objs_app, and_true]; first | rfl | exact ⟨rfl, rfl⟩ | exact ⟨rfl, rfl, rfl⟩))) | (with_reducible refine (And.intro (a := keeps _ _ _) ?_ ?_); focus (first | (simp [keeps_cons, keeps_none, objs_app, objs_app0]; done) | (simp only [keeps_cons, keeps_none, objs_app0, objs_app, and_true]; first | rfl | exact ⟨rfl, rfl⟩ | exact ⟨rfl, rfl, rfl⟩))) | (refine both_ways ?_ ?_) | (rw [wrap_i64 (by omega) (by omega)]) | (refine guardV_split (fun h => ?_) (fun h => ?_) <;> (try rw [h]) <;> (try simp at h) <;> (try (exfalso; omega))) | (refine nth_get hv0 ?_) | (refine h1.idx hca hv hI.nl.symm ?_))
          refine oNumber_c h2 hI.ok hc ?_
          have h3 := h2.setF (o' := .cells (subV { a.x with num := (M.cli a.client).last.num + 1 })) (by omega) (by omega) (fun x hx => by simp only [List.mem_cons, List.not_mem_nil, or_false] at hx; subst hx; exact Nat.ne_of_lt hlb)
          generalize hs3 : s2.set s1.objs.length (.cells (subV { a.x with num := (M.cli a.client).last.num + 1 })) = s3 at h3
          have d3 := h3.f _ (List.mem_cons_self ..)
          simp only at d3
          have cd3 := cellAt_known d3
          repeat' (first | (simp -dsimp only [↓reduceIte, go_sem, t1, t5, t6, t8, t9, t10, hwr, cb2, cd2, d2, hs3, cd3]) | (refine arr_intro fun _ => ?_) | (refine later_intro ⟨keeps_nil, ?_⟩) | (refine later_intro ⟨keeps_refl, ?_⟩) | (with_reducible refine keeps_go ?_ ?_; focus (first | (simp [keeps_cons, keeps_none, objs_app, objs_app0]; done) | (simp only [keeps_cons, keeps_none, objs_app0, objs_app, and_true]; first | rfl | exact ⟨rfl, rfl⟩ | exact ⟨rfl, rfl, rfl⟩))) | (with_reducible refine (And.intro (a := keeps _ _ _) ?_ ?_); focus (first | (simp [keeps_cons, keeps_none, objs_app, objs_app0]; done) | (simp only [keeps_cons, keeps_none, objs_app0, objs_app, and_true]; first | rfl | exact ⟨rfl, rfl⟩ | exact ⟨rfl, rfl, rfl⟩))) | (refine both_ways ?_ ?_) | (rw [wrap_i64 (by omega) (by omega)]) | (refine guardV_split (fun h => ?_) (fun h => ?_) <;> (try rw [h]) <;> (try simp at h) <;> (try (exfalso; omega))))
          refine oSubmit_c h3 hI.ok fun t s4 h4 => ?_
          have h5 := h4.box (.cells (repV t (M.submit a.client { a.x with num := (M.cli a.client).last.num + 1 }).2.1))
          have hxn : ({ a.x with num := (M.cli a.client).last.num + 1 } : Sub).num = (M.cli a.client).last.num + 1 := rfl
          generalize ({ a.x with num := (M.cli a.client).last.num + 1 } : Sub) = x at h4 h5 hxn ⊢
          generalize hs5 : s4.app [.cells (repV t (M.submit a.client x).2.1)] = s5 at h5
          have c5 := h5.f _ (List.mem_cons_self ..)
          simp only at c5
          have cc5 := cellAt_known c5
          rcases hI.submit hc hxn with ⟨q1, q2⟩ | ⟨q1, q2, q3, q4⟩
          · rw [q2] at h5
            repeat' (first | (simp -dsimp only [↓reduceIte, go_sem, t1, t5, t6, t8, t9, t10, hs5, cc5, q1]) | (refine arr_intro fun _ => ?_) | (refine later_intro ⟨keeps_nil, ?_⟩) | (refine later_intro ⟨keeps_refl, ?_⟩) | (with_reducible refine keeps_go ?_ ?_; focus (first | (simp [keeps_cons, keeps_none, objs_app, objs_app0]; done) | (simp only [keeps_cons, keeps_none, objs_app0, objs_app, and_true]; first | rfl | exact ⟨rfl, rfl⟩ | exact ⟨rfl, rfl, rfl⟩))) | (with_reducible refine (And.intro (a := keeps _ _ _) ?_ ?_); focus (first | (simp [keeps_cons, keeps_none, objs_app, objs_app0]; done) | (simp only [keeps_cons, keeps_none, objs_app0, objs_app, and_true]; first | rfl | exact ⟨rfl, rfl⟩ | exact ⟨rfl, rfl, rfl⟩))) | (refine both_ways ?_ ?_) | (rw [wrap_i64 (by omega) (by omega)]) | (refine guardV_split (fun h => ?_) (fun h => ?_) <;> (try rw [h]) <;> (try simp at h) <;> (try (exfalso; omega))))
            have HN := hMn
            repeat' (first | (simp -dsimp only [↓reduceIte, go_sem, t1, t5, t6, t8, t9, t10, goes_of hw]) | (refine arr_intro fun _ => ?_) | (refine later_intro ⟨keeps_nil, ?_⟩) | (refine later_intro ⟨keeps_refl, ?_⟩) | (with_reducible refine keeps_go ?_ ?_; focus (first | (simp [keeps_cons, keeps_none, objs_app, objs_app0]; done) | (simp only [keeps_cons, keeps_none, objs_app0, objs_app, and_true]; first | rfl | exact ⟨rfl, rfl⟩ | exact ⟨rfl, rfl, rfl⟩))) | (with_reducible refine (And.intro (a := keeps _ _ _) ?_ ?_); focus (first | (simp [keeps_cons, keeps_none, objs_app, objs_app0]; done) | (simp only [keeps_cons, keeps_none, objs_app0, objs_app, and_true]; first | rfl | exact ⟨rfl, rfl⟩ | exact ⟨rfl, rfl, rfl⟩))) | (refine both_ways ?_ ?_) | (rw [wrap_i64 (by omega) (by omega)]) | (refine guardV_split (fun h => ?_) (fun h => ?_) <;> (try rw [h]) <;> (try simp at h) <;> (try (exfalso; omega))) | ((refine oOrder_c h5 hI.ok ?_)) | ((refine Go.Aff.L09.Goes_c ?_)))
            refine awp_rounds (fun (q : Nat) τ2 s9 => s9 = s5 ∧ q ≤ (M).n.toNat ∧ τ2 1 = .slice ta la ∧ τ2 5 = .int .i64 (M).n ∧ τ2 6 = .ptr (some (j, [])) ∧ τ2 8 = .arr e [] (M).n.toNat ∧ τ2 9 = .str (M).order ∧ τ2 10 = .int .i64 i ∧ τ2 16 = .str (M).order ∧ τ2 17 = .int .i64 q) (fun q => (M).n.toNat - q) 0 ?_ ?_
            · refine ⟨rfl, by omega, ?_, ?_, ?_, ?_, ?_, ?_, ?_, ?_⟩ <;> (try simp only [go_sem, t1, t5, t6, t8, t9, t10]) <;> (try rfl)
            · rintro q τ2 s9 ⟨rfl, hq, u1, u5, u6, u8, u9, u10, u16, u17⟩
              by_cases hq1 : q < (M).n.toNat
              · have hq2 : (q : Int) < (M).n := by omega
                have hhq : (M).has (q : Int) := ⟨by omega, hq2⟩
                obtain ⟨v, hv, _⟩ := get_of_lt (l := nx) (i := q) (by rw [hI.nl]; exact hq1)
                have hat := (h5).at hv
                have gv := goes_of (hI.vw _ hhq)
                have hct := hI.ct _ hhq
                by_cases hve : v = []
                · subst hve
                  repeat' (first | (simp -dsimp only [↓reduceIte, go_sem, u1, u5, u6, u8, u9, u10, u16, u17, hq2, hat, gv, hct]) | (refine arr_intro fun _ => ?_) | (refine later_intro ⟨keeps_nil, ?_⟩) | (refine later_intro ⟨keeps_refl, ?_⟩) | (with_reducible refine keeps_go ?_ ?_; focus (first | (simp [keeps_cons, keeps_none, objs_app, objs_app0]; done) | (simp only [keeps_cons, keeps_none, objs_app0, objs_app, and_true]; first | rfl | exact ⟨rfl, rfl⟩ | exact ⟨rfl, rfl, rfl⟩))) | (with_reducible refine (And.intro (a := keeps _ _ _) ?_ ?_); focus (first | (simp [keeps_cons, keeps_none, objs_app, objs_app0]; done) | (simp only [keeps_cons, keeps_none, objs_app0, objs_app, and_true]; first | rfl | exact ⟨rfl, rfl⟩ | exact ⟨rfl, rfl, rfl⟩))) | (refine both_ways ?_ ?_) | (rw [wrap_i64 (by omega) (by omega)]) | (refine guardV_split (fun h => ?_) (fun h => ?_) <;> (try rw [h]) <;> (try simp at h) <;> (try (exfalso; omega))) | ((refine oView_c h5 hI.ok hhq ?_)) | ((refine oNumber_c h5 hI.ok hhq ?_)) | ((refine Go.Aff.L09.Goes_c ?_)) | ((refine Go.Aff.L09.Count_c ?_)) | (refine (h5).idxN hv hI.nl.symm ?_))
                  refine later_intro ⟨q + 1, by omega, rfl, by omega, ?_, ?_, ?_, ?_, ?_, ?_, ?_, ?_⟩ <;> (try simp only [go_sem, u1, u5, u6, u8, u9, u10, u16, u17]) <;> (try rfl)
                · have gn := goes_of (hI.nx1 _ hhq v (by simpa using hv) hve).1
                  repeat' (first | (simp -dsimp only [↓reduceIte, go_sem, u1, u5, u6, u8, u9, u10, u16, u17, hq2, hat, gv, gn, hct, hve]) | (refine arr_intro fun _ => ?_) | (refine later_intro ⟨keeps_nil, ?_⟩) | (refine later_intro ⟨keeps_refl, ?_⟩) | (with_reducible refine keeps_go ?_ ?_; focus (first | (simp [keeps_cons, keeps_none, objs_app, objs_app0]; done) | (simp only [keeps_cons, keeps_none, objs_app0, objs_app, and_true]; first | rfl | exact ⟨rfl, rfl⟩ | exact ⟨rfl, rfl, rfl⟩))) | (with_reducible refine (And.intro (a := keeps _ _ _) ?_ ?_); focus (first | (simp [keeps_cons, keeps_none, objs_app, objs_app0]; done) | (simp only [keeps_cons, keeps_none, objs_app0, objs_app, and_true]; first | rfl | exact ⟨rfl, rfl⟩ | exact ⟨rfl, rfl, rfl⟩))) | (refine both_ways ?_ ?_) | (rw [wrap_i64 (by omega) (by omega)]) | (refine guardV_split (fun h => ?_) (fun h => ?_) <;> (try rw [h]) <;> (try simp at h) <;> (try (exfalso; omega))) | ((refine oView_c h5 hI.ok hhq ?_)) | ((refine oNumber_c h5 hI.ok hhq ?_)) | ((refine Go.Aff.L09.Goes_c ?_)) | ((refine Go.Aff.L09.Count_c ?_)) | (refine (h5).idxN hv hI.nl.symm ?_))
                  refine later_intro ⟨q + 1, by omega, rfl, by omega, ?_, ?_, ?_, ?_, ?_, ?_, ?_, ?_⟩ <;> (try simp only [go_sem, u1, u5, u6, u8, u9, u10, u16, u17]) <;> (try rfl)
                  · exfalso; exact hve (by assumption)
              · have hq2 : ¬ (q : Int) < (M).n := by have := hI.ok.n2; omega
                repeat' (first | (simp -dsimp only [↓reduceIte, go_sem, u1, u5, u6, u8, u9, u10, u16, u17, hq2]) | (refine arr_intro fun _ => ?_) | (refine later_intro ⟨keeps_nil, ?_⟩) | (refine later_intro ⟨keeps_refl, ?_⟩) | (with_reducible refine keeps_go ?_ ?_; focus (first | (simp [keeps_cons, keeps_none, objs_app, objs_app0]; done) | (simp only [keeps_cons, keeps_none, objs_app0, objs_app, and_true]; first | rfl | exact ⟨rfl, rfl⟩ | exact ⟨rfl, rfl, rfl⟩))) | (with_reducible refine (And.intro (a := keeps _ _ _) ?_ ?_); focus (first | (simp [keeps_cons, keeps_none, objs_app, objs_app0]; done) | (simp only [keeps_cons, keeps_none, objs_app0, objs_app, and_true]; first | rfl | exact ⟨rfl, rfl⟩ | exact ⟨rfl, rfl, rfl⟩))) | (refine both_ways ?_ ?_) | (rw [wrap_i64 (by omega) (by omega)]) | (refine guardV_split (fun h => ?_) (fun h => ?_) <;> (try rw [h]) <;> (try simp at h) <;> (try (exfalso; omega))))
                refine later_intro ⟨i + 1, by omega, M, nx, (M).order, hI, h5.less.less.less, HN, by omega, List.prefix_refl _, ?_, ?_, ?_, ?_, ?_, ?_⟩ <;> (try simp only [go_sem, u1, u5, u6, u8, u9, u10, u16, u17]) <;> (try rfl)

          · have hI2 := q4 hv
            have hat5 := h5.at hv
            have o5 := h5.o
            have so5 : ∀ w, setOk (.agg (nx.map .str)) [a.client.toNat] w := fun w => arr_setOk
            have sa5 : (AV.agg (nx.map .str)).setAt [a.client.toNat] (.str (M.order ++ [bch a.client])) = .agg ((nx.set a.client.toNat (M.order ++ [bch a.client])).map .str) := arr_setAt (f := .str) hv
            have at5 : (AV.agg (nx.map .str)).at [a.client.toNat] = some (.str []) := by rw [arr_at (f := .str) hv]; rfl
            rw [q3] at hs5 cc5 ⊢
            repeat' (first | (simp -dsimp only [↓reduceIte, go_sem, t1, t5, t6, t8, t9, t10, hs5, cc5, q1]) | (refine arr_intro fun _ => ?_) | (refine later_intro ⟨keeps_nil, ?_⟩) | (refine later_intro ⟨keeps_refl, ?_⟩) | (with_reducible refine keeps_go ?_ ?_; focus (first | (simp [keeps_cons, keeps_none, objs_app, objs_app0]; done) | (simp only [keeps_cons, keeps_none, objs_app0, objs_app, and_true]; first | rfl | exact ⟨rfl, rfl⟩ | exact ⟨rfl, rfl, rfl⟩))) | (with_reducible refine (And.intro (a := keeps _ _ _) ?_ ?_); focus (first | (simp [keeps_cons, keeps_none, objs_app, objs_app0]; done) | (simp only [keeps_cons, keeps_none, objs_app0, objs_app, and_true]; first | rfl | exact ⟨rfl, rfl⟩ | exact ⟨rfl, rfl, rfl⟩))) | (refine both_ways ?_ ?_) | (rw [wrap_i64 (by omega) (by omega)]) | (refine guardV_split (fun h => ?_) (fun h => ?_) <;> (try rw [h]) <;> (try simp at h) <;> (try (exfalso; omega))) | (refine h5.idx hca hv hI.nl.symm ?_))
            have ea : (M.ans x).pending = M.pend.map M.ansP := by unfold Reg.ans; split <;> rfl
            have ev : (M.ans x).view = M.long := by unfold Reg.ans; split <;> rfl
            have hpl := hI.ok.pl
            have hll := hI.ok.ll
            have hap : (M.ans x).pending.length ≤ 1000 := by rw [ea, List.length_map]; omega
            have hav : (M.ans x).view.length ≤ 1000 := by rw [ev]; omega
            refine after_c hap hav ?_
            rw [Reg.ans_after (c := a.client)]
            repeat' (first | (simp -dsimp only [↓reduceIte, go_sem, t1, t5, t6, t8, t9, t10, cc5, q1, o5, so5, sa5, at5]) | (refine arr_intro fun _ => ?_) | (refine later_intro ⟨keeps_nil, ?_⟩) | (refine later_intro ⟨keeps_refl, ?_⟩) | (with_reducible refine keeps_go ?_ ?_; focus (first | (simp [keeps_cons, keeps_none, objs_app, objs_app0]; done) | (simp only [keeps_cons, keeps_none, objs_app0, objs_app, and_true]; first | rfl | exact ⟨rfl, rfl⟩ | exact ⟨rfl, rfl, rfl⟩))) | (with_reducible refine (And.intro (a := keeps _ _ _) ?_ ?_); focus (first | (simp [keeps_cons, keeps_none, objs_app, objs_app0]; done) | (simp only [keeps_cons, keeps_none, objs_app0, objs_app, and_true]; first | rfl | exact ⟨rfl, rfl⟩ | exact ⟨rfl, rfl, rfl⟩))) | (refine both_ways ?_ ?_) | (rw [wrap_i64 (by omega) (by omega)]) | (refine guardV_split (fun h => ?_) (fun h => ?_) <;> (try rw [h]) <;> (try simp at h) <;> (try (exfalso; omega))) | (refine h5.idx hca hv hI.nl.symm ?_))
            have hO2 := h5.less.less.less.put (n := a.client.toNat) (v := M.order ++ [bch a.client])
            have HN := (Reg.submit_n (M := M) (n := a.client) (x := x)).trans hMn
            have hw2 : w <+: (M.submit a.client x).1.order := by rw [q2]; exact hw.trans (List.prefix_append _ _)
            generalize s5.set e (.cells (.agg ((nx.set a.client.toNat (M.order ++ [bch a.client])).map .str))) = s6 at hO2 ⊢
            have un : M.n = (M.submit a.client x).1.n := Reg.submit_n.symm
            rw [un] at t5 t8
            generalize (M.submit a.client x).1 = M2 at hI2 hO2 HN hw2 t5 t8
            generalize nx.set a.client.toNat (M.order ++ [bch a.client]) = nx2 at hI2 hO2
            repeat' (first | (simp -dsimp only [↓reduceIte, go_sem, t1, t5, t6, t8, t9, t10, goes_of hw2]) | (refine arr_intro fun _ => ?_) | (refine later_intro ⟨keeps_nil, ?_⟩) | (refine later_intro ⟨keeps_refl, ?_⟩) | (with_reducible refine keeps_go ?_ ?_; focus (first | (simp [keeps_cons, keeps_none, objs_app, objs_app0]; done) | (simp only [keeps_cons, keeps_none, objs_app0, objs_app, and_true]; first | rfl | exact ⟨rfl, rfl⟩ | exact ⟨rfl, rfl, rfl⟩))) | (with_reducible refine (And.intro (a := keeps _ _ _) ?_ ?_); focus (first | (simp [keeps_cons, keeps_none, objs_app, objs_app0]; done) | (simp only [keeps_cons, keeps_none, objs_app0, objs_app, and_true]; first | rfl | exact ⟨rfl, rfl⟩ | exact ⟨rfl, rfl, rfl⟩))) | (refine both_ways ?_ ?_) | (rw [wrap_i64 (by omega) (by omega)]) | (refine guardV_split (fun h => ?_) (fun h => ?_) <;> (try rw [h]) <;> (try simp at h) <;> (try (exfalso; omega))) | ((refine oOrder_c hO2 hI2.ok ?_)) | ((refine Go.Aff.L09.Goes_c ?_)))
            refine awp_rounds (fun (q : Nat) τ2 s9 => s9 = s6 ∧ q ≤ (M2).n.toNat ∧ τ2 1 = .slice ta la ∧ τ2 5 = .int .i64 (M2).n ∧ τ2 6 = .ptr (some (j, [])) ∧ τ2 8 = .arr e [] (M2).n.toNat ∧ τ2 9 = .str (M2).order ∧ τ2 10 = .int .i64 i ∧ τ2 16 = .str (M2).order ∧ τ2 17 = .int .i64 q) (fun q => (M2).n.toNat - q) 0 ?_ ?_
            · refine ⟨rfl, by omega, ?_, ?_, ?_, ?_, ?_, ?_, ?_, ?_⟩ <;> (try simp only [go_sem, t1, t5, t6, t8, t9, t10]) <;> (try rfl)
            · rintro q τ2 s9 ⟨rfl, hq, u1, u5, u6, u8, u9, u10, u16, u17⟩
              by_cases hq1 : q < (M2).n.toNat
              · have hq2 : (q : Int) < (M2).n := by omega
                have hhq : (M2).has (q : Int) := ⟨by omega, hq2⟩
                obtain ⟨v, hv, _⟩ := get_of_lt (l := nx2) (i := q) (by rw [hI2.nl]; exact hq1)
                have hat := (hO2).at hv
                have gv := goes_of (hI2.vw _ hhq)
                have hct := hI2.ct _ hhq
                by_cases hve : v = []
                · subst hve
                  repeat' (first | (simp -dsimp only [↓reduceIte, go_sem, u1, u5, u6, u8, u9, u10, u16, u17, hq2, hat, gv, hct]) | (refine arr_intro fun _ => ?_) | (refine later_intro ⟨keeps_nil, ?_⟩) | (refine later_intro ⟨keeps_refl, ?_⟩) | (with_reducible refine keeps_go ?_ ?_; focus (first | (simp [keeps_cons, keeps_none, objs_app, objs_app0]; done) | (simp only [keeps_cons, keeps_none, objs_app0, objs_app, and_true]; first | rfl | exact ⟨rfl, rfl⟩ | exact ⟨rfl, rfl, rfl⟩))) | (with_reducible refine (And.intro (a := keeps _ _ _) ?_ ?_); focus (first | (simp [keeps_cons, keeps_none, objs_app, objs_app0]; done) | (simp only [keeps_cons, keeps_none, objs_app0, objs_app, and_true]; first | rfl | exact ⟨rfl, rfl⟩ | exact ⟨rfl, rfl, rfl⟩))) | (refine both_ways ?_ ?_) | (rw [wrap_i64 (by omega) (by omega)]) | (refine guardV_split (fun h => ?_) (fun h => ?_) <;> (try rw [h]) <;> (try simp at h) <;> (try (exfalso; omega))) | ((refine oView_c hO2 hI2.ok hhq ?_)) | ((refine oNumber_c hO2 hI2.ok hhq ?_)) | ((refine Go.Aff.L09.Goes_c ?_)) | ((refine Go.Aff.L09.Count_c ?_)) | (refine (hO2).idxN hv hI2.nl.symm ?_))
                  refine later_intro ⟨q + 1, by omega, rfl, by omega, ?_, ?_, ?_, ?_, ?_, ?_, ?_, ?_⟩ <;> (try simp only [go_sem, u1, u5, u6, u8, u9, u10, u16, u17]) <;> (try rfl)
                · have gn := goes_of (hI2.nx1 _ hhq v (by simpa using hv) hve).1
                  repeat' (first | (simp -dsimp only [↓reduceIte, go_sem, u1, u5, u6, u8, u9, u10, u16, u17, hq2, hat, gv, gn, hct, hve]) | (refine arr_intro fun _ => ?_) | (refine later_intro ⟨keeps_nil, ?_⟩) | (refine later_intro ⟨keeps_refl, ?_⟩) | (with_reducible refine keeps_go ?_ ?_; focus (first | (simp [keeps_cons, keeps_none, objs_app, objs_app0]; done) | (simp only [keeps_cons, keeps_none, objs_app0, objs_app, and_true]; first | rfl | exact ⟨rfl, rfl⟩ | exact ⟨rfl, rfl, rfl⟩))) | (with_reducible refine (And.intro (a := keeps _ _ _) ?_ ?_); focus (first | (simp [keeps_cons, keeps_none, objs_app, objs_app0]; done) | (simp only [keeps_cons, keeps_none, objs_app0, objs_app, and_true]; first | rfl | exact ⟨rfl, rfl⟩ | exact ⟨rfl, rfl, rfl⟩))) | (refine both_ways ?_ ?_) | (rw [wrap_i64 (by omega) (by omega)]) | (refine guardV_split (fun h => ?_) (fun h => ?_) <;> (try rw [h]) <;> (try simp at h) <;> (try (exfalso; omega))) | ((refine oView_c hO2 hI2.ok hhq ?_)) | ((refine oNumber_c hO2 hI2.ok hhq ?_)) | ((refine Go.Aff.L09.Goes_c ?_)) | ((refine Go.Aff.L09.Count_c ?_)) | (refine (hO2).idxN hv hI2.nl.symm ?_))
                  refine later_intro ⟨q + 1, by omega, rfl, by omega, ?_, ?_, ?_, ?_, ?_, ?_, ?_, ?_⟩ <;> (try simp only [go_sem, u1, u5, u6, u8, u9, u10, u16, u17]) <;> (try rfl)
                  · exfalso; exact hve (by assumption)
              · have hq2 : ¬ (q : Int) < (M2).n := by have := hI2.ok.n2; omega
                repeat' (first | (simp -dsimp only [↓reduceIte, go_sem, u1, u5, u6, u8, u9, u10, u16, u17, hq2]) | (refine arr_intro fun _ => ?_) | (refine later_intro ⟨keeps_nil, ?_⟩) | (refine later_intro ⟨keeps_refl, ?_⟩) | (with_reducible refine keeps_go ?_ ?_; focus (first | (simp [keeps_cons, keeps_none, objs_app, objs_app0]; done) | (simp only [keeps_cons, keeps_none, objs_app0, objs_app, and_true]; first | rfl | exact ⟨rfl, rfl⟩ | exact ⟨rfl, rfl, rfl⟩))) | (with_reducible refine (And.intro (a := keeps _ _ _) ?_ ?_); focus (first | (simp [keeps_cons, keeps_none, objs_app, objs_app0]; done) | (simp only [keeps_cons, keeps_none, objs_app0, objs_app, and_true]; first | rfl | exact ⟨rfl, rfl⟩ | exact ⟨rfl, rfl, rfl⟩))) | (refine both_ways ?_ ?_) | (rw [wrap_i64 (by omega) (by omega)]) | (refine guardV_split (fun h => ?_) (fun h => ?_) <;> (try rw [h]) <;> (try simp at h) <;> (try (exfalso; omega))))
                refine later_intro ⟨i + 1, by omega, M2, nx2, (M2).order, hI2, hO2, HN, by omega, List.prefix_refl _, ?_, ?_, ?_, ?_, ?_, ?_⟩ <;> (try simp only [go_sem, u1, u5, u6, u8, u9, u10, u16, u17]) <;> (try rfl)

        · by_cases hk2 : 2 < a.kind
          · repeat' (first | (simp -dsimp only [↓reduceIte, go_sem, t1, t5, t6, t8, t9, t10, hn1, hn2, hs1, hca, hcb, cb1, hat, hve, hk2]) | (refine arr_intro fun _ => ?_) | (refine later_intro ⟨keeps_nil, ?_⟩) | (refine later_intro ⟨keeps_refl, ?_⟩) | (with_reducible refine keeps_go ?_ ?_; focus (first | (simp [keeps_cons, keeps_none, objs_app, objs_app0]; done) | (simp only [keeps_cons, keeps_none, objs_app0, objs_app, and_true]; first | rfl | exact ⟨rfl, rfl⟩ | exact ⟨rfl, rfl, rfl⟩))) | (with_reducible refine (And.intro (a := keeps _ _ _) ?_ ?_); focus (first | (simp [keeps_cons, keeps_none, objs_app, objs_app0]; done) | (simp only [keeps_cons, keeps_none, objs_app0, objs_app, and_true]; first | rfl | exact ⟨rfl, rfl⟩ | exact ⟨rfl, rfl, rfl⟩))) | (refine both_ways ?_ ?_) | (rw [wrap_i64 (by omega) (by omega)]) | (refine guardV_split (fun h => ?_) (fun h => ?_) <;> (try rw [h]) <;> (try simp at h) <;> (try (exfalso; omega))) | (refine nth_get hv0 ?_) | (refine h1.idx hca hv hI.nl.symm ?_) | (with_reducible refine awp_drawT (id := 20) (.op 0 2 (.op 1 2 (.op 2 2 (.op 3 2 (.op 4 2 (.op 5 2 (.op 6 2 (.op 7 2 (.op 8 1 (.op 9 2 .nil)))))))))) (by kernel_rfl) ?_))
            · exfalso; exact hve (by assumption)
            obtain ⟨q1, q2, hI2⟩ := hI.commit (t := a.tag) hc hv hve
            refine oCommit_c h1 hI.ok fun s4 h4 => ?_
            have hat4 := h4.at hv
            have o4 := h4.o
            have so5 : ∀ w, setOk (.agg (nx.map .str)) [a.client.toNat] w := fun w => arr_setOk
            have sa5 : (AV.agg (nx.map .str)).setAt [a.client.toNat] (.str []) = .agg ((nx.set a.client.toNat []).map .str) := arr_setAt (f := .str) hv
            have at5 : (AV.agg (nx.map .str)).at [a.client.toNat] = some (.str v) := by rw [arr_at (f := .str) hv]; rfl
            repeat' (first | (simp -dsimp only [↓reduceIte, go_sem, t1, t5, t6, t8, t9, t10, q1, o4, so5, sa5, at5]) | (refine arr_intro fun _ => ?_) | (refine later_intro ⟨keeps_nil, ?_⟩) | (refine later_intro ⟨keeps_refl, ?_⟩) | (with_reducible refine keeps_go ?_ ?_; focus (first | (simp [keeps_cons, keeps_none, objs_app, objs_app0]; done) | (simp only [keeps_cons, keeps_none, objs_app0, objs_app, and_true]; first | rfl | exact ⟨rfl, rfl⟩ | exact ⟨rfl, rfl, rfl⟩))) | (with_reducible refine (And.intro (a := keeps _ _ _) ?_ ?_); focus (first | (simp [keeps_cons, keeps_none, objs_app, objs_app0]; done) | (simp only [keeps_cons, keeps_none, objs_app0, objs_app, and_true]; first | rfl | exact ⟨rfl, rfl⟩ | exact ⟨rfl, rfl, rfl⟩))) | (refine both_ways ?_ ?_) | (rw [wrap_i64 (by omega) (by omega)]) | (refine guardV_split (fun h => ?_) (fun h => ?_) <;> (try rw [h]) <;> (try simp at h) <;> (try (exfalso; omega))) | (refine h4.idx hca hv hI.nl.symm ?_))
            have hO2 := h4.less.put (n := a.client.toNat) (v := [])
            have HN := (Reg.commit_n (M := M) (n := a.client) (v := v) (t := a.tag)).trans hMn
            have hw2 : w <+: (M.commit a.client v a.tag).1.order := by rw [q2]; exact hw
            generalize s4.set e (.cells (.agg ((nx.set a.client.toNat []).map .str))) = s6 at hO2 ⊢
            have un : M.n = (M.commit a.client v a.tag).1.n := Reg.commit_n.symm
            rw [un] at t5 t8
            generalize (M.commit a.client v a.tag).1 = M2 at hI2 hO2 HN hw2 t5 t8
            generalize nx.set a.client.toNat [] = nx2 at hI2 hO2
            repeat' (first | (simp -dsimp only [↓reduceIte, go_sem, t1, t5, t6, t8, t9, t10, goes_of hw2]) | (refine arr_intro fun _ => ?_) | (refine later_intro ⟨keeps_nil, ?_⟩) | (refine later_intro ⟨keeps_refl, ?_⟩) | (with_reducible refine keeps_go ?_ ?_; focus (first | (simp [keeps_cons, keeps_none, objs_app, objs_app0]; done) | (simp only [keeps_cons, keeps_none, objs_app0, objs_app, and_true]; first | rfl | exact ⟨rfl, rfl⟩ | exact ⟨rfl, rfl, rfl⟩))) | (with_reducible refine (And.intro (a := keeps _ _ _) ?_ ?_); focus (first | (simp [keeps_cons, keeps_none, objs_app, objs_app0]; done) | (simp only [keeps_cons, keeps_none, objs_app0, objs_app, and_true]; first | rfl | exact ⟨rfl, rfl⟩ | exact ⟨rfl, rfl, rfl⟩))) | (refine both_ways ?_ ?_) | (rw [wrap_i64 (by omega) (by omega)]) | (refine guardV_split (fun h => ?_) (fun h => ?_) <;> (try rw [h]) <;> (try simp at h) <;> (try (exfalso; omega))) | ((refine oOrder_c hO2 hI2.ok ?_)) | ((refine Go.Aff.L09.Goes_c ?_)))
            refine awp_rounds (fun (q : Nat) τ2 s9 => s9 = s6 ∧ q ≤ (M2).n.toNat ∧ τ2 1 = .slice ta la ∧ τ2 5 = .int .i64 (M2).n ∧ τ2 6 = .ptr (some (j, [])) ∧ τ2 8 = .arr e [] (M2).n.toNat ∧ τ2 9 = .str (M2).order ∧ τ2 10 = .int .i64 i ∧ τ2 16 = .str (M2).order ∧ τ2 17 = .int .i64 q) (fun q => (M2).n.toNat - q) 0 ?_ ?_
            · refine ⟨rfl, by omega, ?_, ?_, ?_, ?_, ?_, ?_, ?_, ?_⟩ <;> (try simp only [go_sem, t1, t5, t6, t8, t9, t10]) <;> (try rfl)
            · rintro q τ2 s9 ⟨rfl, hq, u1, u5, u6, u8, u9, u10, u16, u17⟩
              by_cases hq1 : q < (M2).n.toNat
              · have hq2 : (q : Int) < (M2).n := by omega
                have hhq : (M2).has (q : Int) := ⟨by omega, hq2⟩
                obtain ⟨v, hv, _⟩ := get_of_lt (l := nx2) (i := q) (by rw [hI2.nl]; exact hq1)
                have hat := (hO2).at hv
                have gv := goes_of (hI2.vw _ hhq)
                have hct := hI2.ct _ hhq
                by_cases hve : v = []
                · subst hve
                  repeat' (first | (simp -dsimp only [↓reduceIte, go_sem, u1, u5, u6, u8, u9, u10, u16, u17, hq2, hat, gv, hct]) | (refine arr_intro fun _ => ?_) | (refine later_intro ⟨keeps_nil, ?_⟩) | (refine later_intro ⟨keeps_refl, ?_⟩) | (with_reducible refine keeps_go ?_ ?_; focus (first | (simp [keeps_cons, keeps_none, objs_app, objs_app0]; done) | (simp only [keeps_cons, keeps_none, objs_app0, objs_app, and_true]; first | rfl | exact ⟨rfl, rfl⟩ | exact ⟨rfl, rfl, rfl⟩))) | (with_reducible refine (And.intro (a := keeps _ _ _) ?_ ?_); focus (first | (simp [keeps_cons, keeps_none, objs_app, objs_app0]; done) | (simp only [keeps_cons, keeps_none, objs_app0, objs_app, and_true]; first | rfl | exact ⟨rfl, rfl⟩ | exact ⟨rfl, rfl, rfl⟩))) | (refine both_ways ?_ ?_) | (rw [wrap_i64 (by omega) (by omega)]) | (refine guardV_split (fun h => ?_) (fun h => ?_) <;> (try rw [h]) <;> (try simp at h) <;> (try (exfalso; omega))) | ((refine oView_c hO2 hI2.ok hhq ?_)) | ((refine oNumber_c hO2 hI2.ok hhq ?_)) | ((refine Go.Aff.L09.Goes_c ?_)) | ((refine Go.Aff.L09.Count_c ?_)) | (refine (hO2).idxN hv hI2.nl.symm ?_))
                  refine later_intro ⟨q + 1, by omega, rfl, by omega, ?_, ?_, ?_, ?_, ?_, ?_, ?_, ?_⟩ <;> (try simp only [go_sem, u1, u5, u6, u8, u9, u10, u16, u17]) <;> (try rfl)
                · have gn := goes_of (hI2.nx1 _ hhq v (by simpa using hv) hve).1
                  repeat' (first | (simp -dsimp only [↓reduceIte, go_sem, u1, u5, u6, u8, u9, u10, u16, u17, hq2, hat, gv, gn, hct, hve]) | (refine arr_intro fun _ => ?_) | (refine later_intro ⟨keeps_nil, ?_⟩) | (refine later_intro ⟨keeps_refl, ?_⟩) | (with_reducible refine keeps_go ?_ ?_; focus (first | (simp [keeps_cons, keeps_none, objs_app, objs_app0]; done) | (simp only [keeps_cons, keeps_none, objs_app0, objs_app, and_true]; first | rfl | exact ⟨rfl, rfl⟩ | exact ⟨rfl, rfl, rfl⟩))) | (with_reducible refine (And.intro (a := keeps _ _ _) ?_ ?_); focus (first | (simp [keeps_cons, keeps_none, objs_app, objs_app0]; done) | (simp only [keeps_cons, keeps_none, objs_app0, objs_app, and_true]; first | rfl | exact ⟨rfl, rfl⟩ | exact ⟨rfl, rfl, rfl⟩))) | (refine both_ways ?_ ?_) | (rw [wrap_i64 (by omega) (by omega)]) | (refine guardV_split (fun h => ?_) (fun h => ?_) <;> (try rw [h]) <;> (try simp at h) <;> (try (exfalso; omega))) | ((refine oView_c hO2 hI2.ok hhq ?_)) | ((refine oNumber_c hO2 hI2.ok hhq ?_)) | ((refine Go.Aff.L09.Goes_c ?_)) | ((refine Go.Aff.L09.Count_c ?_)) | (refine (hO2).idxN hv hI2.nl.symm ?_))
                  refine later_intro ⟨q + 1, by omega, rfl, by omega, ?_, ?_, ?_, ?_, ?_, ?_, ?_, ?_⟩ <;> (try simp only [go_sem, u1, u5, u6, u8, u9, u10, u16, u17]) <;> (try rfl)
                  · exfalso; exact hve (by assumption)
              · have hq2 : ¬ (q : Int) < (M2).n := by have := hI2.ok.n2; omega
                repeat' (first | (simp -dsimp only [↓reduceIte, go_sem, u1, u5, u6, u8, u9, u10, u16, u17, hq2]) | (refine arr_intro fun _ => ?_) | (refine later_intro ⟨keeps_nil, ?_⟩) | (refine later_intro ⟨keeps_refl, ?_⟩) | (with_reducible refine keeps_go ?_ ?_; focus (first | (simp [keeps_cons, keeps_none, objs_app, objs_app0]; done) | (simp only [keeps_cons, keeps_none, objs_app0, objs_app, and_true]; first | rfl | exact ⟨rfl, rfl⟩ | exact ⟨rfl, rfl, rfl⟩))) | (with_reducible refine (And.intro (a := keeps _ _ _) ?_ ?_); focus (first | (simp [keeps_cons, keeps_none, objs_app, objs_app0]; done) | (simp only [keeps_cons, keeps_none, objs_app0, objs_app, and_true]; first | rfl | exact ⟨rfl, rfl⟩ | exact ⟨rfl, rfl, rfl⟩))) | (refine both_ways ?_ ?_) | (rw [wrap_i64 (by omega) (by omega)]) | (refine guardV_split (fun h => ?_) (fun h => ?_) <;> (try rw [h]) <;> (try simp at h) <;> (try (exfalso; omega))))
                refine later_intro ⟨i + 1, by omega, M2, nx2, (M2).order, hI2, hO2, HN, by omega, List.prefix_refl _, ?_, ?_, ?_, ?_, ?_, ?_⟩ <;> (try simp only [go_sem, u1, u5, u6, u8, u9, u10, u16, u17]) <;> (try rfl)

          · repeat' (first | (simp -dsimp only [↓reduceIte, go_sem, t1, t5, t6, t8, t9, t10, hn1, hn2, hs1, hca, hcb, cb1, hat, hve, hk2]) | (refine arr_intro fun _ => ?_) | (refine later_intro ⟨keeps_nil, ?_⟩) | (refine later_intro ⟨keeps_refl, ?_⟩) | (with_reducible refine keeps_go ?_ ?_; focus (first | (simp [keeps_cons, keeps_none, objs_app, objs_app0]; done) | (simp only [keeps_cons, keeps_none, objs_app0, objs_app, and_true]; first | rfl | exact ⟨rfl, rfl⟩ | exact ⟨rfl, rfl, rfl⟩))) | (with_reducible refine (And.intro (a := keeps _ _ _) ?_ ?_); focus (first | (simp [keeps_cons, keeps_none, objs_app, objs_app0]; done) | (simp only [keeps_cons, keeps_none, objs_app0, objs_app, and_true]; first | rfl | exact ⟨rfl, rfl⟩ | exact ⟨rfl, rfl, rfl⟩))) | (refine both_ways ?_ ?_) | (rw [wrap_i64 (by omega) (by omega)]) | (refine guardV_split (fun h => ?_) (fun h => ?_) <;> (try rw [h]) <;> (try simp at h) <;> (try (exfalso; omega))) | (refine nth_get hv0 ?_) | (refine h1.idx hca hv hI.nl.symm ?_))
            · exfalso; exact hve (by assumption)
            have HN := hMn
            repeat' (first | (simp -dsimp only [↓reduceIte, go_sem, t1, t5, t6, t8, t9, t10, goes_of hw]) | (refine arr_intro fun _ => ?_) | (refine later_intro ⟨keeps_nil, ?_⟩) | (refine later_intro ⟨keeps_refl, ?_⟩) | (with_reducible refine keeps_go ?_ ?_; focus (first | (simp [keeps_cons, keeps_none, objs_app, objs_app0]; done) | (simp only [keeps_cons, keeps_none, objs_app0, objs_app, and_true]; first | rfl | exact ⟨rfl, rfl⟩ | exact ⟨rfl, rfl, rfl⟩))) | (with_reducible refine (And.intro (a := keeps _ _ _) ?_ ?_); focus (first | (simp [keeps_cons, keeps_none, objs_app, objs_app0]; done) | (simp only [keeps_cons, keeps_none, objs_app0, objs_app, and_true]; first | rfl | exact ⟨rfl, rfl⟩ | exact ⟨rfl, rfl, rfl⟩))) | (refine both_ways ?_ ?_) | (rw [wrap_i64 (by omega) (by omega)]) | (refine guardV_split (fun h => ?_) (fun h => ?_) <;> (try rw [h]) <;> (try simp at h) <;> (try (exfalso; omega))) | ((refine oOrder_c h1 hI.ok ?_)) | ((refine Go.Aff.L09.Goes_c ?_)))
            refine awp_rounds (fun (q : Nat) τ2 s9 => s9 = s1 ∧ q ≤ (M).n.toNat ∧ τ2 1 = .slice ta la ∧ τ2 5 = .int .i64 (M).n ∧ τ2 6 = .ptr (some (j, [])) ∧ τ2 8 = .arr e [] (M).n.toNat ∧ τ2 9 = .str (M).order ∧ τ2 10 = .int .i64 i ∧ τ2 16 = .str (M).order ∧ τ2 17 = .int .i64 q) (fun q => (M).n.toNat - q) 0 ?_ ?_
            · refine ⟨rfl, by omega, ?_, ?_, ?_, ?_, ?_, ?_, ?_, ?_⟩ <;> (try simp only [go_sem, t1, t5, t6, t8, t9, t10]) <;> (try rfl)
            · rintro q τ2 s9 ⟨rfl, hq, u1, u5, u6, u8, u9, u10, u16, u17⟩
              by_cases hq1 : q < (M).n.toNat
              · have hq2 : (q : Int) < (M).n := by omega
                have hhq : (M).has (q : Int) := ⟨by omega, hq2⟩
                obtain ⟨v, hv, _⟩ := get_of_lt (l := nx) (i := q) (by rw [hI.nl]; exact hq1)
                have hat := (h1).at hv
                have gv := goes_of (hI.vw _ hhq)
                have hct := hI.ct _ hhq
                by_cases hve : v = []
                · subst hve
                  repeat' (first | (simp -dsimp only [↓reduceIte, go_sem, u1, u5, u6, u8, u9, u10, u16, u17, hq2, hat, gv, hct]) | (refine arr_intro fun _ => ?_) | (refine later_intro ⟨keeps_nil, ?_⟩) | (refine later_intro ⟨keeps_refl, ?_⟩) | (with_reducible refine keeps_go ?_ ?_; focus (first | (simp [keeps_cons, keeps_none, objs_app, objs_app0]; done) | (simp only [keeps_cons, keeps_none, objs_app0, objs_app, and_true]; first | rfl | exact ⟨rfl, rfl⟩ | exact ⟨rfl, rfl, rfl⟩))) | (with_reducible refine (And.intro (a := keeps _ _ _) ?_ ?_); focus (first | (simp [keeps_cons, keeps_none, objs_app, objs_app0]; done) | (simp only [keeps_cons, keeps_none, objs_app0, objs_app, and_true]; first | rfl | exact ⟨rfl, rfl⟩ | exact ⟨rfl, rfl, rfl⟩))) | (refine both_ways ?_ ?_) | (rw [wrap_i64 (by omega) (by omega)]) | (refine guardV_split (fun h => ?_) (fun h => ?_) <;> (try rw [h]) <;> (try simp at h) <;> (try (exfalso; omega))) | ((refine oView_c h1 hI.ok hhq ?_)) | ((refine oNumber_c h1 hI.ok hhq ?_)) | ((refine Go.Aff.L09.Goes_c ?_)) | ((refine Go.Aff.L09.Count_c ?_)) | (refine (h1).idxN hv hI.nl.symm ?_))
                  refine later_intro ⟨q + 1, by omega, rfl, by omega, ?_, ?_, ?_, ?_, ?_, ?_, ?_, ?_⟩ <;> (try simp only [go_sem, u1, u5, u6, u8, u9, u10, u16, u17]) <;> (try rfl)
                · have gn := goes_of (hI.nx1 _ hhq v (by simpa using hv) hve).1
                  repeat' (first | (simp -dsimp only [↓reduceIte, go_sem, u1, u5, u6, u8, u9, u10, u16, u17, hq2, hat, gv, gn, hct, hve]) | (refine arr_intro fun _ => ?_) | (refine later_intro ⟨keeps_nil, ?_⟩) | (refine later_intro ⟨keeps_refl, ?_⟩) | (with_reducible refine keeps_go ?_ ?_; focus (first | (simp [keeps_cons, keeps_none, objs_app, objs_app0]; done) | (simp only [keeps_cons, keeps_none, objs_app0, objs_app, and_true]; first | rfl | exact ⟨rfl, rfl⟩ | exact ⟨rfl, rfl, rfl⟩))) | (with_reducible refine (And.intro (a := keeps _ _ _) ?_ ?_); focus (first | (simp [keeps_cons, keeps_none, objs_app, objs_app0]; done) | (simp only [keeps_cons, keeps_none, objs_app0, objs_app, and_true]; first | rfl | exact ⟨rfl, rfl⟩ | exact ⟨rfl, rfl, rfl⟩))) | (refine both_ways ?_ ?_) | (rw [wrap_i64 (by omega) (by omega)]) | (refine guardV_split (fun h => ?_) (fun h => ?_) <;> (try rw [h]) <;> (try simp at h) <;> (try (exfalso; omega))) | ((refine oView_c h1 hI.ok hhq ?_)) | ((refine oNumber_c h1 hI.ok hhq ?_)) | ((refine Go.Aff.L09.Goes_c ?_)) | ((refine Go.Aff.L09.Count_c ?_)) | (refine (h1).idxN hv hI.nl.symm ?_))
                  refine later_intro ⟨q + 1, by omega, rfl, by omega, ?_, ?_, ?_, ?_, ?_, ?_, ?_, ?_⟩ <;> (try simp only [go_sem, u1, u5, u6, u8, u9, u10, u16, u17]) <;> (try rfl)
                  · exfalso; exact hve (by assumption)
              · have hq2 : ¬ (q : Int) < (M).n := by have := hI.ok.n2; omega
                repeat' (first | (simp -dsimp only [↓reduceIte, go_sem, u1, u5, u6, u8, u9, u10, u16, u17, hq2]) | (refine arr_intro fun _ => ?_) | (refine later_intro ⟨keeps_nil, ?_⟩) | (refine later_intro ⟨keeps_refl, ?_⟩) | (with_reducible refine keeps_go ?_ ?_; focus (first | (simp [keeps_cons, keeps_none, objs_app, objs_app0]; done) | (simp only [keeps_cons, keeps_none, objs_app0, objs_app, and_true]; first | rfl | exact ⟨rfl, rfl⟩ | exact ⟨rfl, rfl, rfl⟩))) | (with_reducible refine (And.intro (a := keeps _ _ _) ?_ ?_); focus (first | (simp [keeps_cons, keeps_none, objs_app, objs_app0]; done) | (simp only [keeps_cons, keeps_none, objs_app0, objs_app, and_true]; first | rfl | exact ⟨rfl, rfl⟩ | exact ⟨rfl, rfl, rfl⟩))) | (refine both_ways ?_ ?_) | (rw [wrap_i64 (by omega) (by omega)]) | (refine guardV_split (fun h => ?_) (fun h => ?_) <;> (try rw [h]) <;> (try simp at h) <;> (try (exfalso; omega))))
                refine later_intro ⟨i + 1, by omega, M, nx, (M).order, hI, h1.less, HN, by omega, List.prefix_refl _, ?_, ?_, ?_, ?_, ?_, ?_⟩ <;> (try simp only [go_sem, u1, u5, u6, u8, u9, u10, u16, u17]) <;> (try rfl)
      · have hc2 : a.client < 0 ∨ (0 ≤ a.client ∧ M.n ≤ a.client) := by unfold Reg.has at hc; omega
        rcases hc2 with hc2 | ⟨hc2, hc3⟩
        · repeat' (first | (simp -dsimp only [↓reduceIte, go_sem, t1, t5, t6, t8, t9, t10, hn1, hn2, hs1, cb1, hc2]) | (refine arr_intro fun _ => ?_) | (refine later_intro ⟨keeps_nil, ?_⟩) | (refine later_intro ⟨keeps_refl, ?_⟩) | (with_reducible refine keeps_go ?_ ?_; focus (first | (simp [keeps_cons, keeps_none, objs_app, objs_app0]; done) | (simp only [keeps_cons, keeps_none, objs_app0, objs_app, and_true]; first | rfl | exact ⟨rfl, rfl⟩ | exact ⟨rfl, rfl, rfl⟩))) | (with_reducible refine (And.intro (a := keeps _ _ _) ?_ ?_); focus (first | (simp [keeps_cons, keeps_none, objs_app, objs_app0]; done) | (simp only [keeps_cons, keeps_none, objs_app0, objs_app, and_true]; first | rfl | exact ⟨rfl, rfl⟩ | exact ⟨rfl, rfl, rfl⟩))) | (refine both_ways ?_ ?_) | (rw [wrap_i64 (by omega) (by omega)]) | (refine guardV_split (fun h => ?_) (fun h => ?_) <;> (try rw [h]) <;> (try simp at h) <;> (try (exfalso; omega))) | (refine nth_get hv0 ?_))
          exact ⟨i + 1, by omega, M, nx, w, hI, h1.less, hMn, by omega, hw, rfl, rfl, rfl, rfl⟩
        · have hc4 : ¬ a.client < 0 := by omega
          repeat' (first | (simp -dsimp only [↓reduceIte, go_sem, t1, t5, t6, t8, t9, t10, hn1, hn2, hs1, cb1, hc3, hc4]) | (refine arr_intro fun _ => ?_) | (refine later_intro ⟨keeps_nil, ?_⟩) | (refine later_intro ⟨keeps_refl, ?_⟩) | (with_reducible refine keeps_go ?_ ?_; focus (first | (simp [keeps_cons, keeps_none, objs_app, objs_app0]; done) | (simp only [keeps_cons, keeps_none, objs_app0, objs_app, and_true]; first | rfl | exact ⟨rfl, rfl⟩ | exact ⟨rfl, rfl, rfl⟩))) | (with_reducible refine (And.intro (a := keeps _ _ _) ?_ ?_); focus (first | (simp [keeps_cons, keeps_none, objs_app, objs_app0]; done) | (simp only [keeps_cons, keeps_none, objs_app0, objs_app, and_true]; first | rfl | exact ⟨rfl, rfl⟩ | exact ⟨rfl, rfl, rfl⟩))) | (refine both_ways ?_ ?_) | (rw [wrap_i64 (by omega) (by omega)]) | (refine guardV_split (fun h => ?_) (fun h => ?_) <;> (try rw [h]) <;> (try simp at h) <;> (try (exfalso; omega))) | (refine nth_get hv0 ?_))
          exact ⟨i + 1, by omega, M, nx, w, hI, h1.less, hMn, by omega, hw, rfl, rfl, rfl, rfl⟩
    · have h2 : (¬ (i : Int) < la.length ∧ True) ∨ ((i : Int) < la.length ∧ ¬ (i : Int) < 60) := by
        by_cases h : (i : Int) < la.length
        · exact .inr ⟨h, by omega⟩
        · exact .inl ⟨h, trivial⟩
      rcases h2 with ⟨hn1, hn2⟩ | ⟨hn1, hn2⟩
      all_goals
        repeat' (first | (simp -dsimp only [↓reduceIte, go_sem, t1, t5, t6, t8, t9, t10, hn1, hn2]) | (refine arr_intro fun _ => ?_) | (refine later_intro ⟨keeps_nil, ?_⟩) | (refine later_intro ⟨keeps_refl, ?_⟩) | (with_reducible refine keeps_go ?_ ?_; focus (first | (simp [keeps_cons, keeps_none, objs_app, objs_app0]; done) | (simp only [keeps_cons, keeps_none, objs_app0, objs_app, and_true]; first | rfl | exact ⟨rfl, rfl⟩ | exact ⟨rfl, rfl, rfl⟩))) | (with_reducible refine (And.intro (a := keeps _ _ _) ?_ ?_); focus (first | (simp [keeps_cons, keeps_none, objs_app, objs_app0]; done) | (simp only [keeps_cons, keeps_none, objs_app0, objs_app, and_true]; first | rfl | exact ⟨rfl, rfl⟩ | exact ⟨rfl, rfl, rfl⟩))) | (refine both_ways ?_ ?_) | (rw [wrap_i64 (by omega) (by omega)]) | (refine guardV_split (fun h => ?_) (fun h => ?_) <;> (try rw [h]) <;> (try simp at h) <;> (try (exfalso; omega))))
        exact hK _ hO.x
end Go.Aff.L10

