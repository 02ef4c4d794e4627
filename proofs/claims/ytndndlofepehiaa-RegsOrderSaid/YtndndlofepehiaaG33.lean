import Derived.Test.YtndndlofepehiaaG32

set_option linter.unusedSimpArgs false
set_option linter.unusedVariables false

/- Layer 12, walked: the reference's registers. -/
-- cuts
namespace Go.Aff.L10
open Go.Proofs Go.Aff Go.Aff.L01 Classical
set_option linter.unusedVariables false
set_option linter.unusedSimpArgs false
set_option maxRecDepth 20000
attribute [local go_sem] push_app app_app length_app cellAt_app cellAt_app0 set_app set_app0 objs_app objs_app0 List.cons_append List.nil_append List.length_cons List.length_nil List.getElem?_cons_zero List.getElem?_cons_succ List.set_cons_zero List.set_cons_succ List.length_map
attribute [-go_sem] cellAt_new
attribute [-simp] List.length_flatMap
attribute [local go_sem] Try.underlying3 Try.underlying4 Try.underlying5 Try.underlying9 Try.underlying31 Try.underlying32 Try.underlying41 Try.underlying75 Try.underlying24 Try.underlying81 subPs_0 subAt_0 subSet_0 subPs_1 subAt_1 subSet_1 subPs_2 subAt_2 subSet_2 subPs_3 subAt_3 subSet_3 subPs_4 subAt_4 subSet_4 subPs_5 subAt_5 subSet_5 sizes_sub shapes_sub fits_sub zero_sub zt_sub built_sub Try.underlying34 pendPs_0 pendAt_0 pendSet_0 pendPs_1 pendAt_1 pendSet_1 pendPs_2 pendAt_2 pendSet_2 pendPs_3 pendAt_3 pendSet_3 pendPs_4 pendAt_4 pendSet_4 pendPs_5 pendAt_5 pendSet_5 sizes_pend shapes_pend fits_pend zero_pend zt_pend built_pend Try.underlying70 repPs_0 repAt_0 repSet_0 repPs_1 repAt_1 repSet_1 repPs_2 repAt_2 repSet_2 repPs_3 repAt_3 repSet_3 repPs_4 repAt_4 repSet_4 repPs_5 repAt_5 repSet_5 repPs_6 repAt_6 repSet_6 repPs_7 repAt_7 repSet_7 repPs_8 repAt_8 repSet_8 repPs_9 repAt_9 repSet_9 sizes_rep shapes_rep fits_rep zero_rep zt_rep built_rep Try.underlying43 blobPs_0 blobAt_0 blobSet_0 blobPs_1 blobAt_1 blobSet_1 blobPs_2 blobAt_2 blobSet_2 blobPs_3 blobAt_3 blobSet_3 sizes_blob shapes_blob fits_blob zero_blob zt_blob built_blob Try.underlying74 msgPs_0 msgAt_0 msgSet_0 msgPs_1 msgAt_1 msgSet_1 msgPs_2 msgAt_2 msgSet_2 msgPs_3 msgAt_3 msgSet_3 msgPs_4 msgAt_4 msgSet_4 msgPs_5 msgAt_5 msgSet_5 msgPs_6 msgAt_6 msgSet_6 msgPs_7 msgAt_7 msgSet_7 msgPs_8 msgAt_8 msgSet_8 msgPs_9 msgAt_9 msgSet_9 sizes_msg shapes_msg fits_msg zero_msg zt_msg built_msg Try.underlying77 at_Ps_0 at_Set_0 at_Ps_1 at_Set_1 sizes_at_ shapes_at_
attribute [local go_sem] fits3 fits4 fits5 fits9 fits23 fits26 fits31 fits34 fits52 zt3 zero3 zt34 zero34 zt23 zero23 bin_sub_eql bin_pend_eql bin_pend_neq bin_blob_eql bin_dig23_eql bin_dig23_neq slice23
attribute [local go_sem ↓] blockQ_exit2
attribute [local simp] dig_ext
attribute [local go_sem] cliPs_0 cliAt_0 cliSet_0 cliPs_1 cliAt_1 cliSet_1 cliPs_2 cliAt_2 cliSet_2 cliPs_3 cliAt_3 cliSet_3 sizes_cli shapes_cli fits_cli zero_cli zt_cli built_cli actPs_0 actAt_0 actSet_0 actPs_1 actAt_1 actSet_1 actPs_2 actAt_2 actSet_2 actPs_3 actAt_3 actSet_3 actPs_4 actAt_4 actSet_4 sizes_act shapes_act fits_act zero_act zt_act built_act rgPs_0 rgPs_1 rgPs_2 rgPs_3 rgPs_4 rgPs_5 rgSet_0 rgSet_2 rgSet_3 rgSet_4 rgSet_5 rgAt_0 rgAt_1 fits_rg zero_rg zt_rg built_rg fits66 rrgPs_0 rrgSet_0 rrgAt_0 rrgPs_1 rrgSet_1 rrgAt_1 rrgPs_2 rrgSet_2 rrgAt_2 rrgPs_3 rrgSet_3 rrgAt_3 rrgPs_4 rrgSet_4 rrgAt_4 rrgPs_5 rrgSet_5 rrgAt_5 rrgPs_6 rrgSet_6 rrgAt_6 rrgPs_7 rrgSet_7 rrgAt_7 sizes_rrg shapes_rrg fits_rrg zero_rrg zt_rrg built_rrg fits57 fits58 fits39 fits59 fits23r fits41 arrV_none arrV_some arrV_size arrV_agg arrV_shape Try.underlying22 Try.underlying23 Try.underlying28 Try.underlying36 Try.underlying39 Try.underlying57 Try.underlying58 Try.underlying59 Try.underlying61 Try.underlying65 Try.underlying66 Try.underlying68 Try.underlying78
attribute [local go_sem] Try.underlying81
theorem isAgg_arr {i n : Nat} {p : List Nat} : (AV.arr i p n).isAgg = false := rfl
theorem size_arr {i n : Nat} {p : List Nat} : (AV.arr i p n).size = 1 := rfl
theorem shape_arr {i n : Nat} {p : List Nat} : (AV.arr i p n).shape = .leaf := rfl
theorem known_arr {i n : Nat} {p : List Nat} : (AV.arr i p n).known = true := rfl
attribute [local go_sem] isAgg_arr size_arr shape_arr known_arr
theorem index_arr {P : Program} {α : Type} {f : α → AV} {l : List α} {t e sz j m i : Nat} {y : α} {q : IntKind} {σ : AST} {KV : AV → Prop} (hu : P.underlying t = some (.slice e)) (hc : P.cellsOf e = sz) (hs : ∀ x, (f x).size = sz) (hf : ∀ x, fits P e (f x))
    (o : σ.objs[j]? = some (.cells (.agg (l.map f)))) (hm : m = l.length) (hy : l[i]? = some y) (hK : KV (.ptr (some (j, [i])))) : indexAddrW P σ t (.arr j [] m) (.int q i) KV := by
  have hi := (List.getElem?_eq_some_iff.1 hy).1
  have e1 : (AV.agg (l.map f)).at [] = some (.agg (l.map f)) := rfl
  simp only [indexAddrW, o, e1]
  have hsz : ∀ l : List α, AV.sizes (l.map f) = l.length * sz := by
    intro l
    induction l with
    | nil => simp [AV.sizes]
    | cons a l ih => simp only [List.map_cons, AV.sizes, ih, hs, List.length_cons]; rw [Nat.add_mul]; omega
  refine ⟨e, hu, by simp [hm], ?_, by omega, by simp [hm]; omega, fun x hx => ⟨?_, by rw [Int.toNat_natCast]; exact hK⟩⟩
  · rw [Int.toNat_natCast, ← List.map_take, hsz, hc, List.length_take, Nat.min_eq_left (by omega)]
  · have h2 : ((l.map f).take m)[i]? = some x := hx
    rw [List.getElem?_take, if_pos (by omega), List.getElem?_map, hy] at h2
    cases h2; exact hf y
theorem arr_at {α : Type} {f : α → AV} {l : List α} {i : Nat} {y : α} (hy : l[i]? = some y) (q : List Nat) : (AV.agg (l.map f)).at (i :: q) = (f y).at q := by simp [AV.at, hy]
theorem arr_setAt {α : Type} {f : α → AV} {l : List α} {i : Nat} {y z : α} (hy : l[i]? = some y) : (AV.agg (l.map f)).setAt [i] (f z) = .agg ((l.set i z).map f) := by
  have e1 : (l.map f)[i]? = some (f y) := by simp [hy]
  simp only [AV.setAt, e1, List.map_set]
theorem arr_setOk {α : Type} {f : α → AV} {l : List α} {i : Nat} {x : AV} : setOk (.agg (l.map f)) [i] x := by
  simp only [setOk]; intro v _; cases v <;> trivial
namespace Reg
def front (M : Reg) : List Cli := M.cs.take M.n.toNat
theorem front_set {M : Reg} {i : Int} {c : Cli} : (M.setC i c).front = M.front.set i.toNat c := by simp [front, setC, List.take_set]
theorem front_get {M : Reg} (h8 : M.cs.length = 8) (n8 : M.n ≤ 8) {i : Int} (h : M.has i) : M.front[i.toNat]? = some (M.cli i) := by
  obtain ⟨h0, h1⟩ := h
  unfold front cli
  have : i.toNat < M.cs.length := by omega
  rw [List.getElem?_take, if_pos (by omega), List.getElem?_eq_getElem this]; rfl
theorem front_len {M : Reg} (h8 : M.cs.length = 8) (n8 : M.n ≤ 8) : M.front.length = M.n.toNat := by simp [front]; omega
end Reg
def repP (c : Tk × Rep) : AV := .agg (repPs c.1 c.2)
/-- The reference's registers, as lists. -/
structure RM where
  n : Int
  subs : List Sub
  reps : List Rep
  views : List (List UInt8)
  tags : List Dig
  by_ : Int
  long : List UInt8
  tag : Dig
  pend : List Pend
def Reg.rm (M : Reg) : RM := ⟨M.n, M.front.map (·.last), M.front.map (·.reply), M.front.map (·.view), M.front.map (·.tag), M.by_, M.long, M.tag, M.pend⟩
/-- The reference's registers in memory, and what else is known of memory. -/
structure QF (σ0 s : AST) (k i1 i2 i3 i4 : Nat) (X : RM) (F : List (Nat × AObj)) : Prop where
  x : Ext σ0 s
  jn : ∀ i ∈ [k, i1, i2, i3, i4], σ0.objs.length ≤ i
  nd : [k, i1, i2, i3, i4].Nodup
  n0 : 0 ≤ X.n
  n8 : X.n ≤ 8
  l1 : X.subs.length = X.n.toNat
  l2 : X.reps.length = X.n.toNat
  l3 : X.views.length = X.n.toNat
  l4 : X.tags.length = X.n.toNat
  o : ∃ tk, s.objs[k]? = some (.cells (rrgV tk ⟨some (i1, X.n.toNat), some (i2, X.n.toNat), some (i3, X.n.toNat), some (i4, X.n.toNat), X.by_, X.long, X.tag, X.pend⟩))
  o1 : s.objs[i1]? = some (.cells (.agg (X.subs.map fun x => .agg (subPs x))))
  o2 : ∃ l : List (Tk × Rep), l.map (·.2) = X.reps ∧ s.objs[i2]? = some (.cells (.agg (l.map repP)))
  o3 : s.objs[i3]? = some (.cells (.agg (X.views.map .str)))
  o4 : s.objs[i4]? = some (.cells (.agg (X.tags.map .dig)))
  f : ∀ x ∈ F, x.1 ∉ [k, i1, i2, i3, i4] ∧ s.objs[x.1]? = some x.2
section
variable {σ0 s s2 : AST} {k i1 i2 i3 i4 : Nat} {X : RM} {F : List (Nat × AObj)} {K : AV → AST → Prop}
theorem QF.ext (h : QF σ0 s k i1 i2 i3 i4 X F) (e : Ext s s2) : QF σ0 s2 k i1 i2 i3 i4 X F := by
  obtain ⟨t, o⟩ := h.o
  obtain ⟨l, hl, o2⟩ := h.o2
  exact ⟨h.x.trans e, h.jn, h.nd, h.n0, h.n8, h.l1, h.l2, h.l3, h.l4, ⟨t, ext_known e o⟩, ext_known e h.o1, ⟨l, hl, ext_known e o2⟩, ext_known e h.o3, ext_known e h.o4, fun y hy => ⟨(h.f y hy).1, ext_known e (h.f y hy).2⟩⟩
theorem QF.more (h : QF σ0 s k i1 i2 i3 i4 X F) {i : Nat} {o : AObj} (ho : s.objs[i]? = some o) (hi : i ∉ [k, i1, i2, i3, i4]) : QF σ0 s k i1 i2 i3 i4 X ((i, o) :: F) :=
  ⟨h.x, h.jn, h.nd, h.n0, h.n8, h.l1, h.l2, h.l3, h.l4, h.o, h.o1, h.o2, h.o3, h.o4, fun x hx => by
    rcases List.mem_cons.1 hx with rfl | hx
    · exact ⟨hi, ho⟩
    · exact h.f x hx⟩
theorem QF.less {y : Nat × AObj} (h : QF σ0 s k i1 i2 i3 i4 X (y :: F)) : QF σ0 s k i1 i2 i3 i4 X F := ⟨h.x, h.jn, h.nd, h.n0, h.n8, h.l1, h.l2, h.l3, h.l4, h.o, h.o1, h.o2, h.o3, h.o4, fun x hx => h.f x (List.mem_cons_of_mem _ hx)⟩
theorem QF.lt (h : QF σ0 s k i1 i2 i3 i4 X F) : k < s.objs.length ∧ i1 < s.objs.length ∧ i2 < s.objs.length ∧ i3 < s.objs.length ∧ i4 < s.objs.length := by
  obtain ⟨t, o⟩ := h.o
  obtain ⟨l, hl, o2⟩ := h.o2
  exact ⟨(List.getElem?_eq_some_iff.1 o).1, (List.getElem?_eq_some_iff.1 h.o1).1, (List.getElem?_eq_some_iff.1 o2).1, (List.getElem?_eq_some_iff.1 h.o3).1, (List.getElem?_eq_some_iff.1 h.o4).1⟩
theorem QF.ne (h : QF σ0 s k i1 i2 i3 i4 X F) : k ≠ i1 ∧ k ≠ i2 ∧ k ≠ i3 ∧ k ≠ i4 ∧ i1 ≠ i2 ∧ i1 ≠ i3 ∧ i1 ≠ i4 ∧ i2 ≠ i3 ∧ i2 ≠ i4 ∧ i3 ≠ i4 := by
  have := h.nd
  simp only [List.nodup_cons, List.mem_cons, List.not_mem_nil, or_false, not_or] at this
  obtain ⟨⟨a, b, c, d⟩, ⟨e, f, g⟩, ⟨p, q⟩, r, _⟩ := this
  exact ⟨a, b, c, d, e, f, g, p, q, r⟩
theorem QF.box (h : QF σ0 s k i1 i2 i3 i4 X F) (o : AObj) : QF σ0 (s.app [o]) k i1 i2 i3 i4 X ((s.objs.length, o) :: F) := by
  have hl := h.lt
  refine (h.ext (Ext.app _ _)).more objs_app0 ?_
  simp only [List.mem_cons, List.not_mem_nil, or_false, not_or]; omega
theorem refIs_c (h : QF σ0 s k i1 i2 i3 i4 X F) {i : Int} (hK : K (.bool (decide (0 ≤ i ∧ i < X.n))) s) : TCalls Try.prog 22 [.ptr (some (k, [])), .int .i64 i] s K := by
  obtain ⟨tk, o⟩ := h.o
  have c0 := cellAt_known o
  have hn : (X.n.toNat : Int) = X.n := Int.toNat_of_nonneg h.n0
  have hn8 := h.n8
  refine tcalls_walk Try.f22 _ [.tmp 4] Try.func22 rfl rfl rfl mixed (Nat.le_of_ble_eq_true rfl) rfl fun hlen => ?_
  repeat' (first | (simp -dsimp only [↓reduceIte, go_sem, c0, hn]) | (refine arr_intro fun _ => ?_) | (refine later_intro ⟨keeps_nil, ?_⟩) | (refine later_intro ⟨keeps_refl, ?_⟩) | (with_reducible refine keeps_go ?_ ?_; focus (first | (simp [keeps_cons, keeps_none, objs_app, objs_app0]; done) | (simp only [keeps_cons, keeps_none, objs_app0, objs_app, and_true]; first | rfl | exact ⟨rfl, rfl⟩ | exact ⟨rfl, rfl, rfl⟩))) | (with_reducible refine (And.intro (a := keeps _ _ _) ?_ ?_); focus (first | (simp [keeps_cons, keeps_none, objs_app, objs_app0]; done) | (simp only [keeps_cons, keeps_none, objs_app0, objs_app, and_true]; first | rfl | exact ⟨rfl, rfl⟩ | exact ⟨rfl, rfl, rfl⟩))) | (refine both_ways ?_ ?_) | (rw [wrap_i64 (by omega) (by omega)]) | (refine guardV_split (fun h => ?_) (fun h => ?_) <;> (try rw [h]) <;> (try simp at h) <;> (try (exfalso; omega))))
  all_goals
    refine bool_endD hK ?_
    constructor <;> intro hh <;> simp_all <;> omega
theorem refOrder_c (h : QF σ0 s k i1 i2 i3 i4 X F) (hpl : X.pend.length ≤ 8) (hll : X.long.length ≤ 512) (hcl : PendIn X.n X.pend) (hK : K (.str (orderL X.long X.pend)) s) : TCalls Try.prog 26 [.ptr (some (k, []))] s K := by
  refine TCalls.drop ?_
  obtain ⟨tk, o⟩ := h.o
  have c0 := cellAt_known o
  have hn8 := h.n8
  refine tcalls_walk Try.f26 _ [.tmp 2] Try.func26 rfl rfl rfl mixed (Nat.le_of_ble_eq_true rfl) rfl fun hlen => ?_
  repeat' (first | (simp -dsimp only [↓reduceIte, go_sem, c0, cellAt_growS]) | (refine arr_intro fun _ => ?_) | (refine later_intro ⟨keeps_nil, ?_⟩) | (refine later_intro ⟨keeps_refl, ?_⟩) | (with_reducible refine keeps_go ?_ ?_; focus (first | (simp [keeps_cons, keeps_none, objs_app, objs_app0]; done) | (simp only [keeps_cons, keeps_none, objs_app0, objs_app, and_true]; first | rfl | exact ⟨rfl, rfl⟩ | exact ⟨rfl, rfl, rfl⟩))) | (with_reducible refine (And.intro (a := keeps _ _ _) ?_ ?_); focus (first | (simp [keeps_cons, keeps_none, objs_app, objs_app0]; done) | (simp only [keeps_cons, keeps_none, objs_app0, objs_app, and_true]; first | rfl | exact ⟨rfl, rfl⟩ | exact ⟨rfl, rfl, rfl⟩))) | (refine both_ways ?_ ?_) | (rw [wrap_i64 (by omega) (by omega)]) | (refine guardV_split (fun h => ?_) (fun h => ?_) <;> (try rw [h]) <;> (try simp at h) <;> (try (exfalso; omega))) | (refine conv_mk ?_))
  refine awp_rounds (fun (i : Nat) τ s' => ∃ tk', i ≤ X.pend.length ∧ Gr s s' tk' (orderL X.long (X.pend.take i)).length ∧ τ 0 = .ptr (some (k, [])) ∧ τ 3 = .slice tk' (u8s (orderL X.long (X.pend.take i))) ∧ τ 4 = .int .i64 i) (fun i => X.pend.length - i) 0 ?_ ?_
  · refine ⟨growT s .full, by omega, ?_, ?_, ?_, ?_⟩ <;> (try simp only [go_sem]) <;> (try rfl)
    · have := (Gr.start (σ := s) (n := 0) (e := 1)).grow (m := X.long.length)
      simpa [orderL] using this
    · simp [orderL]
  · rintro i τ s' ⟨tk', hi, hg, t0, t3, t4⟩
    have c1 := cellAt_known (ext_known hg.x o)
    have hol : (orderL X.long (X.pend.take i)).length = X.long.length + i := by simp [orderL]; omega
    by_cases hil : i < X.pend.length
    · have hi1 : (i : Int) < X.pend.length := by omega
      obtain ⟨y, hy, hym⟩ := get_of_lt hil
      have hcy := hcl y hym
      have hb := bch_int (n := y.client) hcy.1 (by omega)
      have hnx := orderL_next (long := X.long) hy
      repeat' (first | (simp -dsimp only [↓reduceIte, go_sem, t0, t3, t4, hi1, hb, c1]) | (refine arr_intro fun _ => ?_) | (refine later_intro ⟨keeps_nil, ?_⟩) | (refine later_intro ⟨keeps_refl, ?_⟩) | (with_reducible refine keeps_go ?_ ?_; focus (first | (simp [keeps_cons, keeps_none, objs_app, objs_app0]; done) | (simp only [keeps_cons, keeps_none, objs_app0, objs_app, and_true]; first | rfl | exact ⟨rfl, rfl⟩ | exact ⟨rfl, rfl, rfl⟩))) | (with_reducible refine (And.intro (a := keeps _ _ _) ?_ ?_); focus (first | (simp [keeps_cons, keeps_none, objs_app, objs_app0]; done) | (simp only [keeps_cons, keeps_none, objs_app0, objs_app, and_true]; first | rfl | exact ⟨rfl, rfl⟩ | exact ⟨rfl, rfl, rfl⟩))) | (refine both_ways ?_ ?_) | (rw [wrap_i64 (by omega) (by omega)]) | (refine guardV_split (fun h => ?_) (fun h => ?_) <;> (try rw [h]) <;> (try simp at h) <;> (try (exfalso; omega))) | (refine nth_get hy ?_) | (refine build_u8 ?_) | (refine append_bytes E51 S51 hg.c (by rw [hol]; simp; omega) (by rw [hol]; simp [maxL]; omega) ?_))
      refine later_intro ⟨i + 1, by omega, growT s' tk', by omega, ?_, ?_, ?_, ?_⟩ <;> (try simp only [go_sem, t0, t3, t4, hnx]) <;> (try rfl)
      have := hg.grow (m := X.long.length + i + 1)
      simpa [hol] using this
    · have hi1 : ¬ (i : Int) < X.pend.length := by omega
      have he : i = X.pend.length := by omega
      subst he
      rw [List.take_length] at t3
      repeat' (first | (simp -dsimp only [↓reduceIte, go_sem, t0, t3, t4, hi1, c1]) | (refine arr_intro fun _ => ?_) | (refine later_intro ⟨keeps_nil, ?_⟩) | (refine later_intro ⟨keeps_refl, ?_⟩) | (with_reducible refine keeps_go ?_ ?_; focus (first | (simp [keeps_cons, keeps_none, objs_app, objs_app0]; done) | (simp only [keeps_cons, keeps_none, objs_app0, objs_app, and_true]; first | rfl | exact ⟨rfl, rfl⟩ | exact ⟨rfl, rfl, rfl⟩))) | (with_reducible refine (And.intro (a := keeps _ _ _) ?_ ?_); focus (first | (simp [keeps_cons, keeps_none, objs_app, objs_app0]; done) | (simp only [keeps_cons, keeps_none, objs_app0, objs_app, and_true]; first | rfl | exact ⟨rfl, rfl⟩ | exact ⟨rfl, rfl, rfl⟩))) | (refine both_ways ?_ ?_) | (rw [wrap_i64 (by omega) (by omega)]) | (refine guardV_split (fun h => ?_) (fun h => ?_) <;> (try rw [h]) <;> (try simp at h) <;> (try (exfalso; omega))))
      exact ⟨hg.x, rfl, by simpa [AV.strip] using hK⟩
end
end Go.Aff.L10

/- Layer 12, walked: the reference's registers are made. -/
-- cuts
namespace Go.Aff.L10
open Go.Proofs Go.Aff Go.Aff.L01 Classical
set_option linter.unusedVariables false
set_option linter.unusedSimpArgs false
set_option maxRecDepth 20000
attribute [local go_sem] push_app app_app length_app cellAt_app cellAt_app0 set_app set_app0 objs_app objs_app0 List.cons_append List.nil_append List.length_cons List.length_nil List.getElem?_cons_zero List.getElem?_cons_succ List.set_cons_zero List.set_cons_succ List.length_map
attribute [-go_sem] cellAt_new
attribute [-simp] List.length_flatMap
attribute [local go_sem] Try.underlying3 Try.underlying4 Try.underlying5 Try.underlying9 Try.underlying31 Try.underlying32 Try.underlying41 Try.underlying75 Try.underlying24 Try.underlying81 subPs_0 subAt_0 subSet_0 subPs_1 subAt_1 subSet_1 subPs_2 subAt_2 subSet_2 subPs_3 subAt_3 subSet_3 subPs_4 subAt_4 subSet_4 subPs_5 subAt_5 subSet_5 sizes_sub shapes_sub fits_sub zero_sub zt_sub built_sub Try.underlying34 pendPs_0 pendAt_0 pendSet_0 pendPs_1 pendAt_1 pendSet_1 pendPs_2 pendAt_2 pendSet_2 pendPs_3 pendAt_3 pendSet_3 pendPs_4 pendAt_4 pendSet_4 pendPs_5 pendAt_5 pendSet_5 sizes_pend shapes_pend fits_pend zero_pend zt_pend built_pend Try.underlying70 repPs_0 repAt_0 repSet_0 repPs_1 repAt_1 repSet_1 repPs_2 repAt_2 repSet_2 repPs_3 repAt_3 repSet_3 repPs_4 repAt_4 repSet_4 repPs_5 repAt_5 repSet_5 repPs_6 repAt_6 repSet_6 repPs_7 repAt_7 repSet_7 repPs_8 repAt_8 repSet_8 repPs_9 repAt_9 repSet_9 sizes_rep shapes_rep fits_rep zero_rep zt_rep built_rep Try.underlying43 blobPs_0 blobAt_0 blobSet_0 blobPs_1 blobAt_1 blobSet_1 blobPs_2 blobAt_2 blobSet_2 blobPs_3 blobAt_3 blobSet_3 sizes_blob shapes_blob fits_blob zero_blob zt_blob built_blob Try.underlying74 msgPs_0 msgAt_0 msgSet_0 msgPs_1 msgAt_1 msgSet_1 msgPs_2 msgAt_2 msgSet_2 msgPs_3 msgAt_3 msgSet_3 msgPs_4 msgAt_4 msgSet_4 msgPs_5 msgAt_5 msgSet_5 msgPs_6 msgAt_6 msgSet_6 msgPs_7 msgAt_7 msgSet_7 msgPs_8 msgAt_8 msgSet_8 msgPs_9 msgAt_9 msgSet_9 sizes_msg shapes_msg fits_msg zero_msg zt_msg built_msg Try.underlying77 at_Ps_0 at_Set_0 at_Ps_1 at_Set_1 sizes_at_ shapes_at_
attribute [local go_sem] fits3 fits4 fits5 fits9 fits23 fits26 fits31 fits34 fits52 zt3 zero3 zt34 zero34 zt23 zero23 bin_sub_eql bin_pend_eql bin_pend_neq bin_blob_eql bin_dig23_eql bin_dig23_neq slice23
attribute [local go_sem ↓] blockQ_exit2
attribute [local simp] dig_ext
attribute [local go_sem] cliPs_0 cliAt_0 cliSet_0 cliPs_1 cliAt_1 cliSet_1 cliPs_2 cliAt_2 cliSet_2 cliPs_3 cliAt_3 cliSet_3 sizes_cli shapes_cli fits_cli zero_cli zt_cli built_cli actPs_0 actAt_0 actSet_0 actPs_1 actAt_1 actSet_1 actPs_2 actAt_2 actSet_2 actPs_3 actAt_3 actSet_3 actPs_4 actAt_4 actSet_4 sizes_act shapes_act fits_act zero_act zt_act built_act rgPs_0 rgPs_1 rgPs_2 rgPs_3 rgPs_4 rgPs_5 rgSet_0 rgSet_2 rgSet_3 rgSet_4 rgSet_5 rgAt_0 rgAt_1 fits_rg zero_rg zt_rg built_rg fits66 rrgPs_0 rrgSet_0 rrgAt_0 rrgPs_1 rrgSet_1 rrgAt_1 rrgPs_2 rrgSet_2 rrgAt_2 rrgPs_3 rrgSet_3 rrgAt_3 rrgPs_4 rrgSet_4 rrgAt_4 rrgPs_5 rrgSet_5 rrgAt_5 rrgPs_6 rrgSet_6 rrgAt_6 rrgPs_7 rrgSet_7 rrgAt_7 sizes_rrg shapes_rrg fits_rrg zero_rrg zt_rrg built_rrg fits57 fits58 fits39 fits59 fits23r fits41 arrV_none arrV_some arrV_size arrV_agg arrV_shape Try.underlying22 Try.underlying23 Try.underlying28 Try.underlying36 Try.underlying39 Try.underlying57 Try.underlying58 Try.underlying59 Try.underlying61 Try.underlying65 Try.underlying66 Try.underlying68 Try.underlying78
attribute [local go_sem] Try.underlying81
attribute [local go_sem] isAgg_arr size_arr shape_arr known_arr
def reg0 (n : Int) : Reg := ⟨n, List.replicate 8 cli0, -1, [], dig0, []⟩
theorem zt9 : ZeroOf Try.prog 9 (.str []) := ⟨_, _, rfl, rfl, rfl, rfl, rfl⟩
theorem zt32d : ZeroOf Try.prog 32 (.dig dig0) := ⟨_, _, rfl, rfl, rfl, rfl, rfl⟩
theorem make_arr {t e : TypeId} {n : Int} {z : AV} {σ : AST} {K : AV → AST → Prop} (h0 : 0 ≤ n) (h1 : n ≤ 8) (hu : Try.prog.underlying t = some (.slice e)) (hz : ZeroOf Try.prog e z) (hc : 0 < Try.prog.cellsOf e) (hb : Try.prog.bytesOf e ≤ 100000)
    (hK : K (.arr σ.objs.length [] n.toNat) (σ.push (.cells (.agg (List.replicate n.toNat z))))) : makeSliceW Try.prog t (.int .i64 n) (.int .i64 n) σ K := by
  refine ⟨h0, Int.le_refl _, e, z, hu, hz, hc, ?_, by omega, .inl ⟨rfl, hK⟩⟩
  have h2 : n.toNat ≤ 8 := by omega
  exact Nat.le_trans (Nat.mul_le_mul h2 hb) (by decide)
theorem refNew_fin {n : Int} (h0 : 2 ≤ n) (h1 : n ≤ 8) {σ : AST} {K : AV → AST → Prop} (hK : ∀ s' k i1 i2 i3 i4, QF σ s' k i1 i2 i3 i4 (reg0 n).rm [] → K (.ptr (some (k, []))) s') {a b c d : AObj} {i1 i2 i3 i4 : Nat}
    (o1 : [a, b, c, d][i1]? = some (.cells (.agg (List.replicate n.toNat (.agg (subPs sub0)))))) (o2 : [a, b, c, d][i2]? = some (.cells (.agg (List.replicate n.toNat (.agg (repPs .full rep0))))))
    (o3 : [a, b, c, d][i3]? = some (.cells (.agg (List.replicate n.toNat (.str []))))) (o4 : [a, b, c, d][i4]? = some (.cells (.agg (List.replicate n.toNat (.dig dig0))))) (hd : [i1, i2, i3, i4].Nodup) :
    K (.ptr (some (σ.objs.length + 4, []))) (σ.app [a, b, c, d, .cells (.agg (rrgPs .full ⟨some (σ.objs.length + i1, n.toNat), some (σ.objs.length + i2, n.toNat), some (σ.objs.length + i3, n.toNat), some (σ.objs.length + i4, n.toNat), -1, [], dig0, []⟩))]) := by
  have look : ∀ (e : AObj) i o, [a, b, c, d][i]? = some o → (σ.app [a, b, c, d, e]).objs[σ.objs.length + i]? = some o := fun e i o h => by
    rw [objs_app]
    have hi := (List.getElem?_eq_some_iff.1 h).1
    have : [a, b, c, d, e] = [a, b, c, d] ++ [e] := rfl
    rw [this, List.getElem?_append_left hi]; exact h
  have l1 := (List.getElem?_eq_some_iff.1 o1).1
  have l2 := (List.getElem?_eq_some_iff.1 o2).1
  have l3 := (List.getElem?_eq_some_iff.1 o3).1
  have l4 := (List.getElem?_eq_some_iff.1 o4).1
  have hf : (reg0 n).front = List.replicate n.toNat cli0 := by
    unfold Reg.front reg0
    simp only [List.take_replicate]
    congr 1; omega
  refine hK _ (σ.objs.length + 4) (σ.objs.length + i1) (σ.objs.length + i2) (σ.objs.length + i3) (σ.objs.length + i4) ⟨Ext.app _ _, ?_, ?_, by show 0 ≤ n; omega, h1, ?_, ?_, ?_, ?_, ⟨.full, ?_⟩, ?_, ⟨List.replicate n.toNat (.full, rep0), ?_, ?_⟩, ?_, ?_, fun y hy => by simp at hy⟩
  · intro i hi
    simp only [List.mem_cons, List.not_mem_nil, or_false] at hi
    omega
  · simp only [List.nodup_cons, List.mem_cons, List.not_mem_nil, or_false, not_or, List.length_cons, List.length_nil, List.nodup_nil, and_true, not_false_eq_true] at hd l1 l2 l3 l4 ⊢
    omega
  · simp only [Reg.rm, hf, List.length_map, List.length_replicate]; rfl
  · simp only [Reg.rm, hf, List.length_map, List.length_replicate]; rfl
  · simp only [Reg.rm, hf, List.length_map, List.length_replicate]; rfl
  · simp only [Reg.rm, hf, List.length_map, List.length_replicate]; rfl
  · rw [objs_app]; rfl
  · rw [look _ _ _ o1]; simp only [Reg.rm, hf, List.map_replicate]; rfl
  · simp only [Reg.rm, hf, List.map_replicate]; rfl
  · rw [look _ _ _ o2, List.map_replicate]; rfl
  · rw [look _ _ _ o3]; simp only [Reg.rm, hf, List.map_replicate]; rfl
  · rw [look _ _ _ o4]; simp only [Reg.rm, hf, List.map_replicate]; rfl
theorem refNew_c {n : Int} (h0 : 2 ≤ n) (h1 : n ≤ 8) {σ : AST} {K : AV → AST → Prop} (hK : ∀ s' k i1 i2 i3 i4, QF σ s' k i1 i2 i3 i4 (reg0 n).rm [] → K (.ptr (some (k, []))) s') : TCalls Try.prog 9 [.int .i64 n] σ K := by
  refine tcalls_walk Try.f9 _ [.tmp 2] Try.func9 rfl rfl rfl mixed (Nat.le_of_ble_eq_true rfl) rfl fun hlen => ?_
  repeat' (first | (simp -dsimp only [↓reduceIte, go_sem]) | (refine arr_intro fun _ => ?_) | (refine later_intro ⟨keeps_nil, ?_⟩) | (refine later_intro ⟨keeps_refl, ?_⟩) | (with_reducible refine keeps_go ?_ ?_; focus (first | (simp [keeps_cons, keeps_none, objs_app, objs_app0]; done) | (simp only [keeps_cons, keeps_none, objs_app0, objs_app, and_true]; first | rfl | exact ⟨rfl, rfl⟩ | exact ⟨rfl, rfl, rfl⟩))) | (with_reducible refine (And.intro (a := keeps _ _ _) ?_ ?_); focus (first | (simp [keeps_cons, keeps_none, objs_app, objs_app0]; done) | (simp only [keeps_cons, keeps_none, objs_app0, objs_app, and_true]; first | rfl | exact ⟨rfl, rfl⟩ | exact ⟨rfl, rfl, rfl⟩))) | (refine both_ways ?_ ?_) | (rw [wrap_i64 (by omega) (by omega)]) | (refine guardV_split (fun h => ?_) (fun h => ?_) <;> (try rw [h]) <;> (try simp at h) <;> (try (exfalso; omega))) | (with_reducible refine awp_drawU (id := 1) (.op 0 0 (.op 2 0 (.op 4 0 (.op 6 0 (.fork 1 (.op 1 1 (.fork 3 (.op 3 1 (.fork 5 (.op 5 1 (.op 7 1 (.cut (.op 8 2 (.op 9 1 (.op 10 2 .nil)))))) (.op 7 1 (.op 5 1 (.cut (.op 8 2 (.op 9 1 (.op 10 2 .nil)))))))) (.fork 5 (.op 5 1 (.fork 3 (.op 3 1 (.op 7 1 (.cut (.op 8 2 (.op 9 1 (.op 10 2 .nil)))))) (.op 7 1 (.op 3 1 (.cut (.op 8 2 (.op 9 1 (.op 10 2 .nil)))))))) (.op 7 1 (.fork 3 (.op 3 1 (.op 5 1 (.cut (.op 8 2 (.op 9 1 (.op 10 2 .nil)))))) (.op 5 1 (.op 3 1 (.cut (.op 8 2 (.op 9 1 (.op 10 2 .nil))))))))))) (.fork 3 (.op 3 1 (.fork 1 (.op 1 1 (.fork 5 (.op 5 1 (.op 7 1 (.cut (.op 8 2 (.op 9 1 (.op 10 2 .nil)))))) (.op 7 1 (.op 5 1 (.cut (.op 8 2 (.op 9 1 (.op 10 2 .nil)))))))) (.fork 5 (.op 5 1 (.fork 1 (.op 1 1 (.op 7 1 (.cut (.op 8 2 (.op 9 1 (.op 10 2 .nil)))))) (.op 7 1 (.op 1 1 (.cut (.op 8 2 (.op 9 1 (.op 10 2 .nil)))))))) (.op 7 1 (.fork 1 (.op 1 1 (.op 5 1 (.cut (.op 8 2 (.op 9 1 (.op 10 2 .nil)))))) (.op 5 1 (.op 1 1 (.cut (.op 8 2 (.op 9 1 (.op 10 2 .nil))))))))))) (.fork 5 (.op 5 1 (.fork 1 (.op 1 1 (.fork 3 (.op 3 1 (.op 7 1 (.cut (.op 8 2 (.op 9 1 (.op 10 2 .nil)))))) (.op 7 1 (.op 3 1 (.cut (.op 8 2 (.op 9 1 (.op 10 2 .nil)))))))) (.fork 3 (.op 3 1 (.fork 1 (.op 1 1 (.op 7 1 (.cut (.op 8 2 (.op 9 1 (.op 10 2 .nil)))))) (.op 7 1 (.op 1 1 (.cut (.op 8 2 (.op 9 1 (.op 10 2 .nil)))))))) (.op 7 1 (.fork 1 (.op 1 1 (.op 3 1 (.cut (.op 8 2 (.op 9 1 (.op 10 2 .nil)))))) (.op 3 1 (.op 1 1 (.cut (.op 8 2 (.op 9 1 (.op 10 2 .nil))))))))))) (.op 7 1 (.fork 1 (.op 1 1 (.fork 3 (.op 3 1 (.op 5 1 (.cut (.op 8 2 (.op 9 1 (.op 10 2 .nil)))))) (.op 5 1 (.op 3 1 (.cut (.op 8 2 (.op 9 1 (.op 10 2 .nil)))))))) (.fork 3 (.op 3 1 (.fork 1 (.op 1 1 (.op 5 1 (.cut (.op 8 2 (.op 9 1 (.op 10 2 .nil)))))) (.op 5 1 (.op 1 1 (.cut (.op 8 2 (.op 9 1 (.op 10 2 .nil)))))))) (.op 5 1 (.fork 1 (.op 1 1 (.op 3 1 (.cut (.op 8 2 (.op 9 1 (.op 10 2 .nil)))))) (.op 3 1 (.op 1 1 (.cut (.op 8 2 (.op 9 1 (.op 10 2 .nil)))))))))))))))))) (by kernel_rfl) ?_) | (refine make_arr (by omega) h1 Try.underlying57 (of_eq_true zt_sub) (by decide +kernel) (by decide +kernel) ?_) | (refine make_arr (by omega) h1 Try.underlying58 (of_eq_true zt_rep) (by decide +kernel) (by decide +kernel) ?_) | (refine make_arr (by omega) h1 Try.underlying39 zt9 (by decide +kernel) (by decide +kernel) ?_) | (refine make_arr (by omega) h1 Try.underlying59 zt32d (by decide +kernel) (by decide +kernel) ?_))
  all_goals
    first
      | exact refNew_fin (i1 := 0) (i2 := 1) (i3 := 2) (i4 := 3) h0 h1 hK rfl rfl rfl rfl (by decide)
      | exact refNew_fin (i1 := 0) (i2 := 1) (i3 := 3) (i4 := 2) h0 h1 hK rfl rfl rfl rfl (by decide)
      | exact refNew_fin (i1 := 0) (i2 := 2) (i3 := 1) (i4 := 3) h0 h1 hK rfl rfl rfl rfl (by decide)
      | exact refNew_fin (i1 := 0) (i2 := 2) (i3 := 3) (i4 := 1) h0 h1 hK rfl rfl rfl rfl (by decide)
      | exact refNew_fin (i1 := 0) (i2 := 3) (i3 := 1) (i4 := 2) h0 h1 hK rfl rfl rfl rfl (by decide)
      | exact refNew_fin (i1 := 0) (i2 := 3) (i3 := 2) (i4 := 1) h0 h1 hK rfl rfl rfl rfl (by decide)
      | exact refNew_fin (i1 := 1) (i2 := 0) (i3 := 2) (i4 := 3) h0 h1 hK rfl rfl rfl rfl (by decide)
      | exact refNew_fin (i1 := 1) (i2 := 0) (i3 := 3) (i4 := 2) h0 h1 hK rfl rfl rfl rfl (by decide)
      | exact refNew_fin (i1 := 1) (i2 := 2) (i3 := 0) (i4 := 3) h0 h1 hK rfl rfl rfl rfl (by decide)
      | exact refNew_fin (i1 := 1) (i2 := 2) (i3 := 3) (i4 := 0) h0 h1 hK rfl rfl rfl rfl (by decide)
      | exact refNew_fin (i1 := 1) (i2 := 3) (i3 := 0) (i4 := 2) h0 h1 hK rfl rfl rfl rfl (by decide)
      | exact refNew_fin (i1 := 1) (i2 := 3) (i3 := 2) (i4 := 0) h0 h1 hK rfl rfl rfl rfl (by decide)
      | exact refNew_fin (i1 := 2) (i2 := 0) (i3 := 1) (i4 := 3) h0 h1 hK rfl rfl rfl rfl (by decide)
      | exact refNew_fin (i1 := 2) (i2 := 0) (i3 := 3) (i4 := 1) h0 h1 hK rfl rfl rfl rfl (by decide)
      | exact refNew_fin (i1 := 2) (i2 := 1) (i3 := 0) (i4 := 3) h0 h1 hK rfl rfl rfl rfl (by decide)
      | exact refNew_fin (i1 := 2) (i2 := 1) (i3 := 3) (i4 := 0) h0 h1 hK rfl rfl rfl rfl (by decide)
      | exact refNew_fin (i1 := 2) (i2 := 3) (i3 := 0) (i4 := 1) h0 h1 hK rfl rfl rfl rfl (by decide)
      | exact refNew_fin (i1 := 2) (i2 := 3) (i3 := 1) (i4 := 0) h0 h1 hK rfl rfl rfl rfl (by decide)
      | exact refNew_fin (i1 := 3) (i2 := 0) (i3 := 1) (i4 := 2) h0 h1 hK rfl rfl rfl rfl (by decide)
      | exact refNew_fin (i1 := 3) (i2 := 0) (i3 := 2) (i4 := 1) h0 h1 hK rfl rfl rfl rfl (by decide)
      | exact refNew_fin (i1 := 3) (i2 := 1) (i3 := 0) (i4 := 2) h0 h1 hK rfl rfl rfl rfl (by decide)
      | exact refNew_fin (i1 := 3) (i2 := 1) (i3 := 2) (i4 := 0) h0 h1 hK rfl rfl rfl rfl (by decide)
      | exact refNew_fin (i1 := 3) (i2 := 2) (i3 := 0) (i4 := 1) h0 h1 hK rfl rfl rfl rfl (by decide)
      | exact refNew_fin (i1 := 3) (i2 := 2) (i3 := 1) (i4 := 0) h0 h1 hK rfl rfl rfl rfl (by decide)
end Go.Aff.L10

/- Layer 12, walked: the reference's Submit. -/
-- cuts
namespace Go.Aff.L10
open Go.Proofs Go.Aff Go.Aff.L01 Classical
set_option linter.unusedVariables false
set_option linter.unusedSimpArgs false
set_option maxRecDepth 20000
attribute [local go_sem] push_app app_app length_app cellAt_app cellAt_app0 set_app set_app0 objs_app objs_app0 List.cons_append List.nil_append List.length_cons List.length_nil List.getElem?_cons_zero List.getElem?_cons_succ List.set_cons_zero List.set_cons_succ List.length_map
attribute [-go_sem] cellAt_new
attribute [-simp] List.length_flatMap
attribute [local go_sem] Try.underlying3 Try.underlying4 Try.underlying5 Try.underlying9 Try.underlying31 Try.underlying32 Try.underlying41 Try.underlying75 Try.underlying24 Try.underlying81 subPs_0 subAt_0 subSet_0 subPs_1 subAt_1 subSet_1 subPs_2 subAt_2 subSet_2 subPs_3 subAt_3 subSet_3 subPs_4 subAt_4 subSet_4 subPs_5 subAt_5 subSet_5 sizes_sub shapes_sub fits_sub zero_sub zt_sub built_sub Try.underlying34 pendPs_0 pendAt_0 pendSet_0 pendPs_1 pendAt_1 pendSet_1 pendPs_2 pendAt_2 pendSet_2 pendPs_3 pendAt_3 pendSet_3 pendPs_4 pendAt_4 pendSet_4 pendPs_5 pendAt_5 pendSet_5 sizes_pend shapes_pend fits_pend zero_pend zt_pend built_pend Try.underlying70 repPs_0 repAt_0 repSet_0 repPs_1 repAt_1 repSet_1 repPs_2 repAt_2 repSet_2 repPs_3 repAt_3 repSet_3 repPs_4 repAt_4 repSet_4 repPs_5 repAt_5 repSet_5 repPs_6 repAt_6 repSet_6 repPs_7 repAt_7 repSet_7 repPs_8 repAt_8 repSet_8 repPs_9 repAt_9 repSet_9 sizes_rep shapes_rep fits_rep zero_rep zt_rep built_rep Try.underlying43 blobPs_0 blobAt_0 blobSet_0 blobPs_1 blobAt_1 blobSet_1 blobPs_2 blobAt_2 blobSet_2 blobPs_3 blobAt_3 blobSet_3 sizes_blob shapes_blob fits_blob zero_blob zt_blob built_blob Try.underlying74 msgPs_0 msgAt_0 msgSet_0 msgPs_1 msgAt_1 msgSet_1 msgPs_2 msgAt_2 msgSet_2 msgPs_3 msgAt_3 msgSet_3 msgPs_4 msgAt_4 msgSet_4 msgPs_5 msgAt_5 msgSet_5 msgPs_6 msgAt_6 msgSet_6 msgPs_7 msgAt_7 msgSet_7 msgPs_8 msgAt_8 msgSet_8 msgPs_9 msgAt_9 msgSet_9 sizes_msg shapes_msg fits_msg zero_msg zt_msg built_msg Try.underlying77 at_Ps_0 at_Set_0 at_Ps_1 at_Set_1 sizes_at_ shapes_at_
attribute [local go_sem] fits3 fits4 fits5 fits9 fits23 fits26 fits31 fits34 fits52 zt3 zero3 zt34 zero34 zt23 zero23 bin_sub_eql bin_pend_eql bin_pend_neq bin_blob_eql bin_dig23_eql bin_dig23_neq slice23
attribute [local go_sem ↓] blockQ_exit2
attribute [local simp] dig_ext
attribute [local go_sem] cliPs_0 cliAt_0 cliSet_0 cliPs_1 cliAt_1 cliSet_1 cliPs_2 cliAt_2 cliSet_2 cliPs_3 cliAt_3 cliSet_3 sizes_cli shapes_cli fits_cli zero_cli zt_cli built_cli actPs_0 actAt_0 actSet_0 actPs_1 actAt_1 actSet_1 actPs_2 actAt_2 actSet_2 actPs_3 actAt_3 actSet_3 actPs_4 actAt_4 actSet_4 sizes_act shapes_act fits_act zero_act zt_act built_act rgPs_0 rgPs_1 rgPs_2 rgPs_3 rgPs_4 rgPs_5 rgSet_0 rgSet_2 rgSet_3 rgSet_4 rgSet_5 rgAt_0 rgAt_1 fits_rg zero_rg zt_rg built_rg fits66 rrgPs_0 rrgSet_0 rrgAt_0 rrgPs_1 rrgSet_1 rrgAt_1 rrgPs_2 rrgSet_2 rrgAt_2 rrgPs_3 rrgSet_3 rrgAt_3 rrgPs_4 rrgSet_4 rrgAt_4 rrgPs_5 rrgSet_5 rrgAt_5 rrgPs_6 rrgSet_6 rrgAt_6 rrgPs_7 rrgSet_7 rrgAt_7 sizes_rrg shapes_rrg fits_rrg zero_rrg zt_rrg built_rrg fits57 fits58 fits39 fits59 fits23r fits41 arrV_none arrV_some arrV_size arrV_agg arrV_shape Try.underlying22 Try.underlying23 Try.underlying28 Try.underlying36 Try.underlying39 Try.underlying57 Try.underlying58 Try.underlying59 Try.underlying61 Try.underlying65 Try.underlying66 Try.underlying68 Try.underlying78
attribute [local go_sem] Try.underlying81
attribute [local go_sem] isAgg_arr size_arr shape_arr known_arr
theorem subM_by {n : Int} {x : Sub} : -9223372036854775808 ≤ (Reg.subM n x).by_ ∧ (Reg.subM n x).by_ ≤ 9223372036854775807 := ⟨show (-9223372036854775808 : Int) ≤ 0 by decide, show (0 : Int) ≤ 9223372036854775807 by decide⟩
theorem comM_by {n : Int} {v : List UInt8} {t : Dig} : -9223372036854775808 ≤ (Reg.comM n v t).by_ ∧ (Reg.comM n v t).by_ ≤ 9223372036854775807 := ⟨show (-9223372036854775808 : Int) ≤ 0 by decide, show (0 : Int) ≤ 9223372036854775807 by decide⟩
namespace RM
def has (X : RM) (i : Int) : Prop := 0 ≤ i ∧ i < X.n
def sub (X : RM) (i : Int) : Sub := (X.subs[i.toNat]?).getD sub0
def rep (X : RM) (i : Int) : Rep := (X.reps[i.toNat]?).getD rep0
def view (X : RM) (i : Int) : List UInt8 := (X.views[i.toNat]?).getD []
def tg (X : RM) (i : Int) : Dig := (X.tags[i.toNat]?).getD dig0
def ansP (X : RM) (p : Pend) : Pend := { p with proof := X.tg p.client }
def ans0 (X : RM) (n : Int) (l : List Pend) : Rep := ⟨n, X.by_, X.long, X.tag, l, 0, [], dig0, [], dig0⟩
def ansC (X : RM) (n : Int) (l : List Pend) (j : Int) : Rep := ⟨n, X.by_, X.long, X.tag, l, (X.sub j).num, (X.sub j).value, (X.sub j).data, X.view j, X.tg j⟩
def ans (X : RM) (x : Sub) : Rep := if x.kind = 2 then X.ansC x.num (X.pend.map X.ansP) x.target else X.ans0 x.num (X.pend.map X.ansP)
noncomputable def submit (X : RM) (n : Int) (x : Sub) : RM × Rep × Int :=
  if ¬ (Reg.subM n x).Ok ∨ ¬ X.has n ∨ ¬ X.has x.target then (X, rep0, 2)
  else if x.num = (X.sub n).num then (if x = X.sub n then (X, X.rep n, 0) else (X, rep0, 10))
  else if x.num ≠ (X.sub n).num + 1 then (X, rep0, 3)
  else if 512 ≤ X.long.length + X.pend.length ∨ 8 ≤ X.pend.length then (X, rep0, 11)
  else ({ X with subs := X.subs.set n.toNat x, reps := X.reps.set n.toNat (X.ans x), pend := X.pend ++ [Reg.newP n x] }, X.ans x, 0)
structure Ok (X : RM) : Prop where
  cl : PendIn X.n X.pend
  pl : X.pend.length ≤ 8
  ll : X.long.length ≤ 512
  rp : ∀ r ∈ X.reps, r.pending.length ≤ 8
  nm : ∀ x ∈ X.subs, 0 ≤ x.num ∧ x.num ≤ 512
theorem ansP_next {X : RM} {i : Nat} {y : Pend} (h : X.pend[i]? = some y) : (X.pend.take (i + 1)).map X.ansP = (X.pend.take i).map X.ansP ++ [X.ansP y] := by
  rw [List.take_add_one, h]; simp
end RM
section
variable {σ0 s s2 : AST} {k i1 i2 i3 i4 : Nat} {X : RM} {F : List (Nat × AObj)} {K : AV → AST → Prop}
theorem QF.sub (h : QF σ0 s k i1 i2 i3 i4 X F) {i : Int} (hi : X.has i) : X.subs[i.toNat]? = some (X.sub i) := by
  obtain ⟨a, b⟩ := hi
  have : i.toNat < X.subs.length := by have := h.l1; have := h.n0; omega
  simp [RM.sub, List.getElem?_eq_getElem this]
theorem QF.rep (h : QF σ0 s k i1 i2 i3 i4 X F) {i : Int} (hi : X.has i) : X.reps[i.toNat]? = some (X.rep i) := by
  obtain ⟨a, b⟩ := hi
  have : i.toNat < X.reps.length := by have := h.l2; have := h.n0; omega
  simp [RM.rep, List.getElem?_eq_getElem this]
theorem QF.view (h : QF σ0 s k i1 i2 i3 i4 X F) {i : Int} (hi : X.has i) : X.views[i.toNat]? = some (X.view i) := by
  obtain ⟨a, b⟩ := hi
  have : i.toNat < X.views.length := by have := h.l3; have := h.n0; omega
  simp [RM.view, List.getElem?_eq_getElem this]
theorem QF.tg (h : QF σ0 s k i1 i2 i3 i4 X F) {i : Int} (hi : X.has i) : X.tags[i.toNat]? = some (X.tg i) := by
  obtain ⟨a, b⟩ := hi
  have : i.toNat < X.tags.length := by have := h.l4; have := h.n0; omega
  simp [RM.tg, List.getElem?_eq_getElem this]
theorem QF.box2 (h : QF σ0 s k i1 i2 i3 i4 X F) (a b : AObj) : QF σ0 (s.app [a, b]) k i1 i2 i3 i4 X ((s.objs.length, a) :: (s.objs.length + 1, b) :: F) := by
  have hl := h.lt
  refine ((h.ext (Ext.app _ _)).more (i := s.objs.length + 1) (by rw [objs_app]; rfl) ?_).more (i := s.objs.length) objs_app0 ?_ <;>
  · simp only [List.mem_cons, List.not_mem_nil, or_false, not_or]; omega
theorem QF.setN {i : Nat} {o : AObj} (h : QF σ0 s k i1 i2 i3 i4 X F) (hi : σ0.objs.length ≤ i) (hj : i ∉ [k, i1, i2, i3, i4]) (hf : ∀ x ∈ F, x.1 ≠ i) : QF σ0 (s.set i o) k i1 i2 i3 i4 X F := by
  obtain ⟨t, q⟩ := h.o
  obtain ⟨l, hl, q2⟩ := h.o2
  simp only [List.mem_cons, List.not_mem_nil, or_false, not_or] at hj
  obtain ⟨a, b, c, d, e⟩ := hj
  exact ⟨h.x.set hi, h.jn, h.nd, h.n0, h.n8, h.l1, h.l2, h.l3, h.l4, ⟨t, by rw [objs_setN a]; exact q⟩, by rw [objs_setN b]; exact h.o1, ⟨l, hl, by rw [objs_setN c]; exact q2⟩, by rw [objs_setN d]; exact h.o3, by rw [objs_setN e]; exact h.o4,
    fun x hx => ⟨(h.f x hx).1, by rw [objs_setN (hf x hx).symm]; exact (h.f x hx).2⟩⟩
theorem idx1 (h : QF σ0 s k i1 i2 i3 i4 X F) {i : Int} (hi : X.has i) {q : IntKind} {KV : AV → Prop} (hK : KV (.ptr (some (i1, [i.toNat])))) : indexAddrW Try.prog s 57 (.arr i1 [] X.n.toNat) (.int q i) KV := by
  have e : ((i.toNat : Nat) : Int) = i := Int.toNat_of_nonneg hi.1
  rw [← e]
  exact index_arr (f := fun x => .agg (subPs x)) (e := 34) (sz := 68) Try.underlying57 (by kernel_rfl) (fun x => by simp [AV.size, sizes_sub]) (fun x => by simp [fits_sub, AV.isAgg, AV.size, sizes_sub]) h.o1 h.l1.symm (h.sub hi) hK
theorem idx3 (h : QF σ0 s k i1 i2 i3 i4 X F) {i : Int} (hi : X.has i) {q : IntKind} {KV : AV → Prop} (hK : KV (.ptr (some (i3, [i.toNat])))) : indexAddrW Try.prog s 39 (.arr i3 [] X.n.toNat) (.int q i) KV := by
  have e : ((i.toNat : Nat) : Int) = i := Int.toNat_of_nonneg hi.1
  rw [← e]
  exact index_arr (f := .str) (e := 9) (sz := 1) Try.underlying39 (by kernel_rfl) (fun x => rfl) (fun x => by simp [fits9, AV.isAgg, AV.size]) h.o3 h.l3.symm (h.view hi) hK
theorem idx4 (h : QF σ0 s k i1 i2 i3 i4 X F) {i : Int} (hi : X.has i) {q : IntKind} {KV : AV → Prop} (hK : KV (.ptr (some (i4, [i.toNat])))) : indexAddrW Try.prog s 59 (.arr i4 [] X.n.toNat) (.int q i) KV := by
  have e : ((i.toNat : Nat) : Int) = i := Int.toNat_of_nonneg hi.1
  rw [← e]
  exact index_arr (f := .dig) (e := 32) (sz := 32) Try.underlying59 (by kernel_rfl) (fun x => rfl) (fun x => by simp [fits23, AV.isAgg, AV.size]) h.o4 h.l4.symm (h.tg hi) hK
theorem idx2 (h : QF σ0 s k i1 i2 i3 i4 X F) {i : Int} (hi : X.has i) {q : IntKind} {KV : AV → Prop} (hK : KV (.ptr (some (i2, [i.toNat])))) : indexAddrW Try.prog s 58 (.arr i2 [] X.n.toNat) (.int q i) KV := by
  have e : ((i.toNat : Nat) : Int) = i := Int.toNat_of_nonneg hi.1
  rw [← e]
  obtain ⟨l, hl, o2⟩ := h.o2
  have hll : l.length = X.n.toNat := by rw [← h.l2, ← hl, List.length_map]
  have hi' : i.toNat < l.length := by have := hi.2; have := h.n0; have := hi.1; omega
  exact index_arr (f := repP) (e := 43) (sz := 103) Try.underlying58 (by kernel_rfl) (fun x => by simp [repP, AV.size, sizes_rep]) (fun x => by simp [repP, fits_rep, AV.isAgg, AV.size, sizes_rep]) o2 hll.symm (List.getElem?_eq_getElem hi') hK
theorem QF.put1 (h : QF σ0 s k i1 i2 i3 i4 X F) {i : Nat} {y : Sub} : QF σ0 (s.set i1 (.cells (.agg ((X.subs.set i y).map fun x => .agg (subPs x))))) k i1 i2 i3 i4 { X with subs := X.subs.set i y } F := by
  obtain ⟨t, q⟩ := h.o
  obtain ⟨l, hl, q2⟩ := h.o2
  obtain ⟨a, b, c, d, e, f, g, p, r, v⟩ := h.ne
  have hlt := h.lt
  exact ⟨h.x.set (h.jn i1 (by simp)), h.jn, h.nd, h.n0, h.n8, by simpa using h.l1, h.l2, h.l3, h.l4, ⟨t, by rw [objs_setN a.symm]; exact q⟩, objs_setS hlt.2.1, ⟨l, hl, by rw [objs_setN e]; exact q2⟩, by rw [objs_setN f]; exact h.o3, by rw [objs_setN g]; exact h.o4,
    fun x hx => ⟨(h.f x hx).1, by rw [objs_setN (fun e => (h.f x hx).1 (by rw [← e]; simp))]; exact (h.f x hx).2⟩⟩
theorem QF.put2 (h : QF σ0 s k i1 i2 i3 i4 X F) {l : List (Tk × Rep)} (hl : l.map (·.2) = X.reps) {i : Nat} {t : Tk} {y : Rep} : QF σ0 (s.set i2 (.cells (.agg ((l.set i (t, y)).map repP)))) k i1 i2 i3 i4 { X with reps := X.reps.set i y } F := by
  obtain ⟨u, q⟩ := h.o
  obtain ⟨a, b, c, d, e, f, g, p, r, v⟩ := h.ne
  have hlt := h.lt
  exact ⟨h.x.set (h.jn i2 (by simp)), h.jn, h.nd, h.n0, h.n8, h.l1, by simpa using h.l2, h.l3, h.l4, ⟨u, by rw [objs_setN b.symm]; exact q⟩, by rw [objs_setN e.symm]; exact h.o1, ⟨l.set i (t, y), by simp [List.map_set, hl], objs_setS hlt.2.2.1⟩, by rw [objs_setN p]; exact h.o3, by rw [objs_setN r]; exact h.o4,
    fun x hx => ⟨(h.f x hx).1, by rw [objs_setN (fun e => (h.f x hx).1 (by rw [← e]; simp))]; exact (h.f x hx).2⟩⟩
theorem QF.put3 (h : QF σ0 s k i1 i2 i3 i4 X F) {i : Nat} {y : List UInt8} : QF σ0 (s.set i3 (.cells (.agg ((X.views.set i y).map .str)))) k i1 i2 i3 i4 { X with views := X.views.set i y } F := by
  obtain ⟨t, q⟩ := h.o
  obtain ⟨l, hl, q2⟩ := h.o2
  obtain ⟨a, b, c, d, e, f, g, p, r, v⟩ := h.ne
  have hlt := h.lt
  exact ⟨h.x.set (h.jn i3 (by simp)), h.jn, h.nd, h.n0, h.n8, h.l1, h.l2, by simpa using h.l3, h.l4, ⟨t, by rw [objs_setN c.symm]; exact q⟩, by rw [objs_setN f.symm]; exact h.o1, ⟨l, hl, by rw [objs_setN p.symm]; exact q2⟩, objs_setS hlt.2.2.2.1, by rw [objs_setN v]; exact h.o4,
    fun x hx => ⟨(h.f x hx).1, by rw [objs_setN (fun e => (h.f x hx).1 (by rw [← e]; simp))]; exact (h.f x hx).2⟩⟩
theorem QF.put4 (h : QF σ0 s k i1 i2 i3 i4 X F) {i : Nat} {y : Dig} : QF σ0 (s.set i4 (.cells (.agg ((X.tags.set i y).map .dig)))) k i1 i2 i3 i4 { X with tags := X.tags.set i y } F := by
  obtain ⟨t, q⟩ := h.o
  obtain ⟨l, hl, q2⟩ := h.o2
  obtain ⟨a, b, c, d, e, f, g, p, r, v⟩ := h.ne
  have hlt := h.lt
  exact ⟨h.x.set (h.jn i4 (by simp)), h.jn, h.nd, h.n0, h.n8, h.l1, h.l2, h.l3, by simpa using h.l4, ⟨t, by rw [objs_setN d.symm]; exact q⟩, by rw [objs_setN g.symm]; exact h.o1, ⟨l, hl, by rw [objs_setN r.symm]; exact q2⟩, by rw [objs_setN v.symm]; exact h.o3, objs_setS hlt.2.2.2.2,
    fun x hx => ⟨(h.f x hx).1, by rw [objs_setN (fun e => (h.f x hx).1 (by rw [← e]; simp))]; exact (h.f x hx).2⟩⟩
theorem QF.putk (h : QF σ0 s k i1 i2 i3 i4 X F) {t : Tk} {b : Int} {l : List UInt8} {g : Dig} {p : List Pend} :
    QF σ0 (s.set k (.cells (rrgV t ⟨some (i1, X.n.toNat), some (i2, X.n.toNat), some (i3, X.n.toNat), some (i4, X.n.toNat), b, l, g, p⟩))) k i1 i2 i3 i4 { X with by_ := b, long := l, tag := g, pend := p } F := by
  obtain ⟨u, q⟩ := h.o
  obtain ⟨l', hl, q2⟩ := h.o2
  obtain ⟨a, b, c, d, e, f, g, p, r, v⟩ := h.ne
  have hlt := h.lt
  exact ⟨h.x.set (h.jn k (by simp)), h.jn, h.nd, h.n0, h.n8, h.l1, h.l2, h.l3, h.l4, ⟨t, objs_setS hlt.1⟩, by rw [objs_setN a]; exact h.o1, ⟨l', hl, by rw [objs_setN b]; exact q2⟩, by rw [objs_setN c]; exact h.o3, by rw [objs_setN d]; exact h.o4,
    fun x hx => ⟨(h.f x hx).1, by rw [objs_setN (fun e => (h.f x hx).1 (by rw [← e]; simp))]; exact (h.f x hx).2⟩⟩
theorem QF.grow {tk : Tk} {m e : Nat} (h : QF σ0 s k i1 i2 i3 i4 X F) (ht : tkNew σ0 tk) : QF σ0 (growS s tk m e) k i1 i2 i3 i4 X F := by
  obtain ⟨t, q⟩ := h.o
  obtain ⟨l, hl, q2⟩ := h.o2
  exact ⟨h.x.grow ht, h.jn, h.nd, h.n0, h.n8, h.l1, h.l2, h.l3, h.l4, ⟨t, by rw [growS_objs]; exact q⟩, by rw [growS_objs]; exact h.o1, ⟨l, hl, by rw [growS_objs]; exact q2⟩, by rw [growS_objs]; exact h.o3, by rw [growS_objs]; exact h.o4,
    fun x hx => ⟨(h.f x hx).1, by rw [growS_objs]; exact (h.f x hx).2⟩⟩
end
end Go.Aff.L10

