import Derived.Test.YtnpbneiaflgpdaaG31
import Derived.Test.YtnpbneiaflgpdaaG21

set_option linter.unusedSimpArgs false
set_option linter.unusedVariables false

/- Layer 10, walked: Get. -/
-- cuts
namespace Go.Aff.L10
open Go.Proofs Go.Aff Go.Aff.L01 Classical
set_option linter.unusedVariables false
set_option linter.unusedSimpArgs false
set_option maxRecDepth 20000
attribute [local go_sem] push_app app_app length_app cellAt_app cellAt_app0 set_app set_app0 objs_app objs_app0 List.cons_append List.nil_append List.length_cons List.length_nil List.getElem?_cons_zero List.getElem?_cons_succ List.set_cons_zero List.set_cons_succ List.length_map
attribute [-go_sem] cellAt_new
attribute [-simp] List.length_flatMap
attribute [local go_sem] Try.underlying3 Try.underlying4 Try.underlying5 Try.underlying9 Try.underlying22 Try.underlying23 Try.underlying26 Try.underlying31 Try.underlying34 Try.underlying52 subPs_0 subAt_0 subSet_0 subPs_1 subAt_1 subSet_1 subPs_2 subAt_2 subSet_2 subPs_3 subAt_3 subSet_3 subPs_4 subAt_4 subSet_4 subPs_5 subAt_5 subSet_5 sizes_sub shapes_sub fits_sub zero_sub zt_sub built_sub Try.underlying25 pendPs_0 pendAt_0 pendSet_0 pendPs_1 pendAt_1 pendSet_1 pendPs_2 pendAt_2 pendSet_2 pendPs_3 pendAt_3 pendSet_3 pendPs_4 pendAt_4 pendSet_4 pendPs_5 pendAt_5 pendSet_5 sizes_pend shapes_pend fits_pend zero_pend zt_pend built_pend Try.underlying98 repPs_0 repAt_0 repSet_0 repPs_1 repAt_1 repSet_1 repPs_2 repAt_2 repSet_2 repPs_3 repAt_3 repSet_3 repPs_4 repAt_4 repSet_4 repPs_5 repAt_5 repSet_5 repPs_6 repAt_6 repSet_6 repPs_7 repAt_7 repSet_7 repPs_8 repAt_8 repSet_8 repPs_9 repAt_9 repSet_9 sizes_rep shapes_rep fits_rep zero_rep zt_rep built_rep Try.underlying28 blobPs_0 blobAt_0 blobSet_0 blobPs_1 blobAt_1 blobSet_1 blobPs_2 blobAt_2 blobSet_2 blobPs_3 blobAt_3 blobSet_3 sizes_blob shapes_blob fits_blob zero_blob zt_blob built_blob Try.underlying30 msgPs_0 msgAt_0 msgSet_0 msgPs_1 msgAt_1 msgSet_1 msgPs_2 msgAt_2 msgSet_2 msgPs_3 msgAt_3 msgSet_3 msgPs_4 msgAt_4 msgSet_4 msgPs_5 msgAt_5 msgSet_5 msgPs_6 msgAt_6 msgSet_6 msgPs_7 msgAt_7 msgSet_7 msgPs_8 msgAt_8 msgSet_8 msgPs_9 msgAt_9 msgSet_9 sizes_msg shapes_msg fits_msg zero_msg zt_msg built_msg Try.underlying33 at_Ps_0 at_At_0 at_Set_0 at_Ps_1 at_At_1 at_Set_1 sizes_at_ shapes_at_ fits_at_ zero_at_ zt_at_ built_at_ Try.underlying77
attribute [local go_sem] fits3 fits4 fits5 fits9 fits23 fits26 fits31 fits34 fits52 zt3 zero3 zt34 zero34 zt23 zero23 bin_sub_eql bin_pend_eql bin_pend_neq bin_blob_eql bin_dig23_eql bin_dig23_neq slice23
attribute [local go_sem ↓] blockQ_exit2
attribute [local simp] dig_ext
attribute [local go_sem] rdrPs_0 rdrAt_0 rdrSet_0 rdrPs_1 rdrAt_1 rdrSet_1 rdrPs_2 rdrAt_2 rdrSet_2 sizes_rdr shapes_rdr fits_rdr zero_rdr zt_rdr built_rdr Try.underlying72 Try.underlying70 Try.underlying75 bin_bool_ne appc appn built23
attribute [local go_sem] msgSet_9s slV_eq
noncomputable section
def getA (s : List UInt8) : Int × Rdr := let a := (Rdr.mk s 0 0).int; (a.1, if a.2.e = 0 ∧ ¬ In 1 11 a.1 then { a.2 with e := 6 } else a.2)
def getB (x : Int × Rdr) : Int × Rdr := if x.1 = 2 ∨ x.1 = 4 ∨ x.1 = 6 then (0, x.2) else x.2.int
def getM (n c : Int) : Msg := ⟨n, c, sub0, rep0, [], 0, dig0, dig0, blob0, []⟩
def getC (s : List UInt8) : Msg × Rdr := (getB (getA s)).2.fields (getM (getA s).1 (getB (getA s)).1)
def getR (s : List UInt8) : Msg × Int :=
  if (getC s).2.e ≠ 0 then (msg0, (getC s).2.e) else if (getC s).2.at_ < s.length ∨ ¬ (getC s).1.Ok then (msg0, 6) else ((getC s).1, 0)
end
theorem get_c {l : List UInt8} {σ : AST} {K : AV → AST → Prop} (hK : ∀ t u, K (.tuple [msgV t u (getR l).1, .int .i64 (getR l).2]) σ) : TCalls Try.prog 14 [.str l] σ K := by
  refine TCalls.drop ?_
  refine tcalls_walk Try.f14 _ [.cell 2 33, .tmp 3] Try.func14 rfl rfl rfl mixed (Nat.le_of_ble_eq_true rfl) rfl fun hlen => ?_
  have hll : l.length ≤ 9223372036854775807 := hlen (.str l) (by simp)
  simp -dsimp only [↓reduceIte, go_sem]
  generalize hk0 : σ.objs.length = k0
  have hR : RF σ (σ.app [.cells (msgV .full .full msg0), .cells (rdrV ⟨l, 0, 0⟩)]) σ.toks (k0 + 1) ⟨l, 0, 0⟩ [(k0, .cells (msgV .full .full msg0))] := by
    refine ⟨Ext.app _ _, rfl, by omega, ?_, ?_, fun _ => ⟨by simp, by simp⟩, hll⟩
    · subst hk0; simp [AST.app]
    · subst hk0; simp [AST.app]
  generalize hj : k0 + 1 = j at hR
  refine int_c hR fun s hR => ?_
  repeat' (first | (simp -dsimp only [↓reduceIte, go_sem, hj]) | (refine arr_intro fun _ => ?_) | (refine later_intro ⟨keeps_nil, ?_⟩) | (refine later_intro ⟨keeps_refl, ?_⟩) | (with_reducible refine keeps_go ?_ ?_; focus (simp [keeps_cons, keeps_none, objs_app, objs_app0]; done)) | (refine both_ways ?_ ?_) | (rw [wrap_i64 (by omega) (by omega)]) | (refine guardV_split (fun h => ?_) (fun h => ?_) <;> (try rw [h]) <;> (try simp at h) <;> (try (exfalso; omega))))
  have hR := hR.push (o := .cells (msgV .full .full ⟨(Rdr.mk l 0 0).int.1, msg0.client, msg0.sub, msg0.rep, msg0.view, msg0.by_, msg0.tag, msg0.own, msg0.blob, msg0.nums⟩))
  have hA1 : (getA l).1 = (Rdr.mk l 0 0).int.1 := rfl
  have hA2 : (getA l).2 = if (Rdr.mk l 0 0).int.2.e = 0 ∧ ¬ In 1 11 (Rdr.mk l 0 0).int.1 then { (Rdr.mk l 0 0).int.2 with e := 6 } else (Rdr.mk l 0 0).int.2 := rfl
  generalize (Rdr.mk l 0 0).int = A at *
  have hle1 := hR.le
  have hF := hR.lt
  have hF1 : ∀ x ∈ [(k0, AObj.cells (msgV .full .full msg0))], x.1 ≠ s.objs.length := by
    intro x hx
    have := (List.getElem?_eq_some_iff.1 (hR.f x (List.mem_cons_of_mem _ hx)).2).1
    have h3 := ‹RF σ s σ.toks j A.2 [(k0, AObj.cells (msgV .full .full msg0))]›.lt x hx
    exact h3
  have hle1 : σ.objs.length ≤ s.objs.length := ‹RF σ s σ.toks j A.2 [(k0, AObj.cells (msgV .full .full msg0))]›.le
  generalize hk1 : s.objs.length = k1 at hR hF1 hle1
  clear hF
  have c := cellAt_known hR.o
  have ho := hR.o
  have h2 := hR.f (k1, _) (List.mem_cons_self ..)
  have c2 := cellAt_known h2.2
  have nj := h2.1.symm
  dsimp only at nj
  repeat' (first | (simp -dsimp only [↓reduceIte, go_sem, hk1, c, ho, c2, cellAt_setN, nj]) | (refine arr_intro fun _ => ?_) | (refine later_intro ⟨keeps_nil, ?_⟩) | (refine later_intro ⟨keeps_refl, ?_⟩) | (with_reducible refine keeps_go ?_ ?_; focus (simp [keeps_cons, keeps_none, objs_app, objs_app0]; done)) | (refine both_ways ?_ ?_) | (rw [wrap_i64 (by omega) (by omega)]) | (refine guardV_split (fun h => ?_) (fun h => ?_) <;> (try rw [h]) <;> (try simp at h) <;> (try (exfalso; omega))) | (refine within_c ?_))
  all_goals
    obtain ⟨r1, h1, hR⟩ : ∃ r1, r1 = (getA l).2 ∧ RF σ _ σ.toks j r1 [(k1, .cells (msgV .full .full (getM A.1 0))), (k0, .cells (msgV .full .full msg0))] := by
      refine ⟨_, hA2.symm, ?_⟩
      first
        | (rw [if_pos ⟨‹_›, ‹_›⟩]; exact hR.err (by decide))
        | (rw [if_neg (fun h => by simp_all)]; exact hR)
  all_goals
    clear c ho h2 c2
    first
      | refine rfields_c hR hle1 hF1 fun s T' t u hR => ?_
      | (refine int_c hR fun s hR => ?_
         have h2 := hR.f (k1, _) (List.mem_cons_self ..)
         have c2 := cellAt_known h2.2
         have hkl := (List.getElem?_eq_some_iff.1 h2.2).1
         repeat' (first | (simp -dsimp only [↓reduceIte, go_sem, c2, h2.2, cellAt_setS, objs_setS, hkl, hj]) | (refine arr_intro fun _ => ?_) | (refine later_intro ⟨keeps_nil, ?_⟩) | (refine later_intro ⟨keeps_refl, ?_⟩) | (with_reducible refine keeps_go ?_ ?_; focus (simp [keeps_cons, keeps_none, objs_app, objs_app0]; done)) | (refine both_ways ?_ ?_) | (rw [wrap_i64 (by omega) (by omega)]) | (refine guardV_split (fun h => ?_) (fun h => ?_) <;> (try rw [h]) <;> (try simp at h) <;> (try (exfalso; omega))))
         have hR := hR.upd (o' := .cells (msgV .full .full (getM A.1 r1.int.1))) hle1 hF1
         refine rfields_c hR hle1 hF1 fun s T' t u hR => ?_)
  all_goals
    obtain ⟨m3, r3, e3, hR⟩ : ∃ m3 r3, getC l = (m3, r3) ∧ RF σ s T' j r3 [(k1, .cells (msgV t u m3)), (k0, .cells (msgV .full .full msg0))] := ⟨_, _, by simp only [getC, getB, hA1, ← h1]; simp [*], hR⟩
    have c := cellAt_known hR.o
    have h2 := hR.f (k1, .cells (msgV t u m3)) (by simp)
    have h0 := hR.f (k0, .cells (msgV .full .full msg0)) (by simp)
    dsimp only at h2 h0
    have c2 := cellAt_known h2.2
    have hkl := (List.getElem?_eq_some_iff.1 h0.2).1
    have n0 := h0.1.symm
    have n1 : k0 ≠ k1 := hF1 (k0, .cells (msgV .full .full msg0)) (by simp)
    have fin : ∀ (v : AV) t u, v = .tuple [msgV t u (getR l).1, .int .i64 (getR l).2] → Ext σ (s.set k0 (.cells (msgV t u (getR l).1))) ∧ v.noRef = true ∧ K v.strip σ := fun v t u hv => by
      subst hv
      refine ⟨hR.x.set (by omega), ?_, ?_⟩
      · simp [AV.noRef, AV.noRefs, msgPs, repPs, subPs, blobPs, noRefs_pends, noRefs_ints]
      · simp only [AV.strip, AV.strips, msg_strips]; exact hK _ _
    clear hK
    by_cases he : r3.e = 0
    · by_cases hat : r3.at_ < l.length
      · have e4 : getR l = (msg0, 6) := by simp only [getR, e3]; simp [he, hat]
        rw [e4] at fin
        repeat' (first | (simp -dsimp only [↓reduceIte, go_sem, hk1, hj, c, c2, h0.2, h2.2, he, hat, cellAt_setS, cellAt_setN, objs_setS, objs_setN, hkl, n0, n1]) | (refine arr_intro fun _ => ?_) | (refine later_intro ⟨keeps_nil, ?_⟩) | (refine later_intro ⟨keeps_refl, ?_⟩) | (with_reducible refine keeps_go ?_ ?_; focus (simp [keeps_cons, keeps_none, objs_app, objs_app0]; done)) | (refine both_ways ?_ ?_) | (rw [wrap_i64 (by omega) (by omega)]) | (refine guardV_split (fun h => ?_) (fun h => ?_) <;> (try rw [h]) <;> (try simp at h) <;> (try (exfalso; omega))) | (with_reducible refine awp_drawT (id := 9) (.op 0 2 (.op 1 0 (.op 2 0 (.op 3 0 (.op 4 0 (.op 5 1 (.op 6 2 .nil))))))) (by kernel_rfl) ?_))
        exact fin _ .full .full rfl
      · by_cases hm : m3.Ok
        · have e4 : getR l = (m3, 0) := by simp only [getR, e3]; simp [he, hat, hm]
          rw [e4] at fin
          repeat' (first | (simp -dsimp only [↓reduceIte, go_sem, hk1, hj, c, c2, h0.2, h2.2, he, hat, hm, cellAt_setS, cellAt_setN, objs_setS, objs_setN, hkl, n0, n1]) | (refine arr_intro fun _ => ?_) | (refine later_intro ⟨keeps_nil, ?_⟩) | (refine later_intro ⟨keeps_refl, ?_⟩) | (with_reducible refine keeps_go ?_ ?_; focus (simp [keeps_cons, keeps_none, objs_app, objs_app0]; done)) | (refine both_ways ?_ ?_) | (rw [wrap_i64 (by omega) (by omega)]) | (refine guardV_split (fun h => ?_) (fun h => ?_) <;> (try rw [h]) <;> (try simp at h) <;> (try (exfalso; omega))) | (with_reducible refine awp_drawT (id := 9) (.op 0 2 (.op 1 0 (.op 2 0 (.op 3 0 (.op 4 0 (.op 5 1 (.op 6 2 .nil))))))) (by kernel_rfl) ?_) | (refine right_c ?_))
          exact fin _ t u rfl
        · have e4 : getR l = (msg0, 6) := by simp only [getR, e3]; simp [he, hat, hm]
          rw [e4] at fin
          repeat' (first | (simp -dsimp only [↓reduceIte, go_sem, hk1, hj, c, c2, h0.2, h2.2, he, hat, hm, cellAt_setS, cellAt_setN, objs_setS, objs_setN, hkl, n0, n1]) | (refine arr_intro fun _ => ?_) | (refine later_intro ⟨keeps_nil, ?_⟩) | (refine later_intro ⟨keeps_refl, ?_⟩) | (with_reducible refine keeps_go ?_ ?_; focus (simp [keeps_cons, keeps_none, objs_app, objs_app0]; done)) | (refine both_ways ?_ ?_) | (rw [wrap_i64 (by omega) (by omega)]) | (refine guardV_split (fun h => ?_) (fun h => ?_) <;> (try rw [h]) <;> (try simp at h) <;> (try (exfalso; omega))) | (with_reducible refine awp_drawT (id := 9) (.op 0 2 (.op 1 0 (.op 2 0 (.op 3 0 (.op 4 0 (.op 5 1 (.op 6 2 .nil))))))) (by kernel_rfl) ?_) | (refine right_c ?_))
          exact fin _ .full .full rfl
    · have e4 : getR l = (msg0, r3.e) := by simp only [getR, e3]; simp [he]
      rw [e4] at fin
      repeat' (first | (simp -dsimp only [↓reduceIte, go_sem, hk1, hj, c, c2, h0.2, h2.2, he, cellAt_setS, cellAt_setN, objs_setS, objs_setN, hkl, n0, n1]) | (refine arr_intro fun _ => ?_) | (refine later_intro ⟨keeps_nil, ?_⟩) | (refine later_intro ⟨keeps_refl, ?_⟩) | (with_reducible refine keeps_go ?_ ?_; focus (simp [keeps_cons, keeps_none, objs_app, objs_app0]; done)) | (refine both_ways ?_ ?_) | (rw [wrap_i64 (by omega) (by omega)]) | (refine guardV_split (fun h => ?_) (fun h => ?_) <;> (try rw [h]) <;> (try simp at h) <;> (try (exfalso; omega))) | (with_reducible refine awp_drawT (id := 9) (.op 0 2 (.op 1 0 (.op 2 0 (.op 3 0 (.op 4 0 (.op 5 1 (.op 6 2 .nil))))))) (by kernel_rfl) ?_))
      refine ⟨?_, fin _ .full .full rfl⟩
      simp [keeps_cons, keeps_none, objs_setN h0.1]
end Go.Aff.L10

/- Layer 10: what was laid is read back. -/
namespace Go.Aff.L10
open Go.Proofs Go.Aff Go.Aff.L01 Classical
set_option linter.unusedVariables false
set_option linter.unusedSimpArgs false
set_option maxRecDepth 20000

def rdAt (x y : List UInt8) : Rdr := ⟨x ++ y, x.length, 0⟩
theorem int_back {x y : List UInt8} {n : Int} (h0 : -9223372036854775808 ≤ n) (h1 : n ≤ 9223372036854775807) : (rdAt x (numS n ++ y)).int = (n, rdAt (x ++ numS n) y) := by
  have h := num_back (x := x) (y := y) h0 h1
  have h2 : numR (x ++ (numS n ++ y)) (x.length : Int) = (n, ((x.length + (numS n).length : Nat) : Int), 0) := by
    rw [numR_nat (by simp)]; exact h
  simp only [rdAt, Rdr.int, h2]
  simp [List.append_assoc]
theorem rtext_back {x y t : List UInt8} (ht : t.length ≤ 16384) : (rdAt x (textS t ++ y)).text = (t, rdAt (x ++ textS t) y) := by
  have h := text_back (x := x) (y := y) (t := t) (by omega)
  have h2 : textR (x ++ (textS t ++ y)) (x.length : Int) = (t, ((x.length + (textS t).length : Nat) : Int), 0) := by
    rw [textR_nat (by simp)]; exact h
  simp only [rdAt, Rdr.text, h2]
  simp [List.append_assoc]
theorem digOf_l (d : Dig) : digOf d.l = (d, 0) := by unfold digOf; rw [dif_pos d.h]
theorem rdig_back {x y : List UInt8} {d : Dig} : (rdAt x (digS d ++ y)).dig = (d, rdAt (x ++ digS d) y) := by
  have h := rtext_back (x := x) (y := y) (t := d.l) (by rw [d.h]; omega)
  simp only [Rdr.dig, digS, h, digOf_l]
  simp
theorem rints_back {x y : List UInt8} {l : List Int} (h : InI l) (hl : ¬ 512 < l.length) : (rdAt x (laidAll numS l ++ y)).ints = (l, rdAt (x ++ laidAll numS l) y) := by
  have h2 := ints_back (x := x) (y := y) h hl
  simp only [rdAt, Rdr.ints, intsR, h2]
  simp [List.append_assoc]
def Rng (n : Int) : Prop := -9223372036854775808 ≤ n ∧ n ≤ 9223372036854775807
theorem int_back' {x y : List UInt8} {n : Int} (h : Rng n) : (rdAt x (numS n ++ y)).int = (n, rdAt (x ++ numS n) y) := int_back h.1 h.2
theorem pend_back {x y : List UInt8} {p : Pend} (hp : p.Ok) : (rdAt x (pendB p ++ y)).pend = (p, rdAt (x ++ pendB p) y) := by
  obtain ⟨h1, h2, h3, h4⟩ := hp
  simp only [In] at h1 h2 h3 h4
  have a1 : Rng p.client := ⟨by omega, by omega⟩
  have a2 : Rng p.num := ⟨by omega, by omega⟩
  have a3 : Rng p.kind := ⟨by omega, by omega⟩
  have a4 : Rng p.target := ⟨by omega, by omega⟩
  have e : pendB p ++ y = numS p.client ++ (numS p.num ++ (numS p.kind ++ (numS p.target ++ (digS p.asked ++ (digS p.proof ++ y))))) := by simp [pendB]
  rw [e]
  simp only [Rdr.pend, int_back' a1, int_back' a2, int_back' a3, int_back' a4, rdig_back]
  simp [pendB, List.append_assoc]
theorem pends_back : ∀ {l : List Pend} {x y : List UInt8}, (∀ p ∈ l, p.Ok) → Rdr.pends l.length (rdAt x (l.flatMap pendB ++ y)) = (l, rdAt (x ++ l.flatMap pendB) y)
  | [], x, y, _ => by simp [Rdr.pends]
  | p :: l, x, y, h => by
    have h1 := pend_back (x := x) (y := l.flatMap pendB ++ y) (h p (List.mem_cons_self ..))
    have h2 := pends_back (l := l) (x := x ++ pendB p) (y := y) (fun q hq => h q (List.mem_cons_of_mem _ hq))
    have e0 : (rdAt x ((p :: l).flatMap pendB ++ y)).e = 0 := rfl
    rw [List.length_cons, Rdr.pends, if_neg (by rw [e0]; decide)]
    rw [List.flatMap_cons, List.append_assoc, h1]
    simp only [h2]
    simp [List.append_assoc]
theorem rep_back {x y : List UInt8} {a : Rep} (hok : a.Ok) : (rdAt x (ansB a ++ y)).rep = (a, rdAt (x ++ ansB a) y) := by
  obtain ⟨hp, h1, h2, h3, h4, h5, h6, h7, h8⟩ := hok
  simp only [In, ViewOk] at h1 h2 h5 h6 h7
  have a1 : Rng a.num := ⟨by omega, by omega⟩
  have a2 : Rng a.last := ⟨by omega, by omega⟩
  have a3 : Rng (a.pending.length : Int) := ⟨by omega, by omega⟩
  have a4 : Rng a.vnum := ⟨by omega, by omega⟩
  have t1 : a.view.length ≤ 16384 := by omega
  have t2 : a.value.length ≤ 16384 := by omega
  have t3 : a.seen.length ≤ 16384 := by omega
  have hin : In 0 8 (a.pending.length : Int) := ⟨by omega, by omega⟩
  have e : ansB a ++ y = numS a.num ++ (numS a.last ++ (textS a.view ++ (digS a.commit ++ (numS (a.pending.length : Int) ++ (a.pending.flatMap pendB ++ (numS a.vnum ++ (textS a.value ++ (digS a.data ++ (textS a.seen ++ (digS a.seenTag ++ y)))))))))) := by simp [ansB]
  rw [e]
  have e0 : ∀ x y, (rdAt x y).e = 0 := fun _ _ => rfl
  simp only [Rdr.rep, Rdr.rep1, Rdr.rep2, int_back' a1, int_back' a2, int_back' a3, rtext_back t1, rdig_back, hin, not_true_eq_false, and_false, if_false, Int.toNat_natCast, pends_back hp, int_back' a4, rtext_back t2, rtext_back t3]
  simp [ansB, List.append_assoc, rep0]
theorem fields_back {m : Msg} (hok : m.Ok) {x y : List UInt8} : (rdAt x (m.rest ++ y)).fields (getM m.kind m.client) = (m, rdAt (x ++ m.rest) y) := by
  have hk := hok.kinds
  have ho := hok.2.2
  have hm : m = ⟨m.kind, m.client, m.sub, m.rep, m.view, m.by_, m.tag, m.own, m.blob, m.nums⟩ := rfl
  rcases hk with ⟨hq, hs⟩ | ⟨hq, hs⟩ | ⟨hq, hs⟩ | ⟨hq, hs⟩ | ⟨hq, hs⟩ | ⟨hq, hs⟩ | ⟨hq, hs⟩ | ⟨hq, hs⟩ | hq | ⟨hq, hs⟩ | hq
  all_goals
    simp only [Msg.own_, hq] at ho
    simp only [Msg.iff] at ho
    simp [msg0] at ho
    obtain ⟨_, ho⟩ := ho
  · obtain ⟨o1, o2, o3, o4⟩ := hs
    simp only [In] at o1 o2 o3
    have a1 : Rng m.sub.num := ⟨by omega, by omega⟩
    have a2 : Rng m.sub.kind := ⟨by omega, by omega⟩
    have a3 : Rng m.sub.target := ⟨by omega, by omega⟩
    have t1 : m.sub.value.length ≤ 16384 := by omega
    have e : m.rest ++ y = numS m.sub.num ++ (numS m.sub.kind ++ (numS m.sub.target ++ (textS m.sub.value ++ (digS m.sub.asked ++ (digS m.sub.data ++ (y)))))) := by simp [Msg.rest, hq, subB, blobB]
    rw [e]
    simp only [Rdr.fields, getM, hq, Int.reduceEq, if_true, if_false, or_self, or_true, true_or, false_or, or_false, int_back' a1, int_back' a2, int_back' a3, rtext_back t1, rdig_back]
    refine Prod.ext ?_ ?_
    · simp [Msg.iff, hq]; grind
    · simp [Msg.rest, hq, subB, blobB, List.append_assoc]
  · have h0 := hs
    have e : m.rest ++ y = ansB m.rep ++ (y) := by simp [Msg.rest, hq, subB, blobB]
    rw [e]
    simp only [Rdr.fields, getM, hq, Int.reduceEq, if_true, if_false, or_self, or_true, true_or, false_or, or_false, rep_back hs]
    refine Prod.ext ?_ ?_
    · simp [Msg.iff, hq]; grind
    · simp [Msg.rest, hq, subB, blobB, List.append_assoc]
  · obtain ⟨_, _, v1, _⟩ := hs
    have t1 : m.view.length ≤ 16384 := by omega
    have e : m.rest ++ y = textS m.view ++ (digS m.tag ++ (y)) := by simp [Msg.rest, hq, subB, blobB]
    rw [e]
    simp only [Rdr.fields, getM, hq, Int.reduceEq, if_true, if_false, or_self, or_true, true_or, false_or, or_false, rtext_back t1, rdig_back]
    refine Prod.ext ?_ ?_
    · simp [Msg.iff, hq]; grind
    · simp [Msg.rest, hq, subB, blobB, List.append_assoc]
  · obtain ⟨o1, o2, o3⟩ := hs
    simp only [In] at o1 o2
    have a1 : Rng m.blob.owner := ⟨by omega, by omega⟩
    have a2 : Rng m.blob.num := ⟨by omega, by omega⟩
    have t1 : m.blob.cipher.length ≤ 16384 := by omega
    have e : m.rest ++ y = numS m.blob.owner ++ (numS m.blob.num ++ (textS m.blob.cipher ++ (digS m.blob.tag ++ (y)))) := by simp [Msg.rest, hq, subB, blobB]
    rw [e]
    simp only [Rdr.fields, getM, hq, Int.reduceEq, if_true, if_false, or_self, or_true, true_or, false_or, or_false, int_back' a1, int_back' a2, rtext_back t1, rdig_back]
    refine Prod.ext ?_ ?_
    · simp [Msg.iff, hq]; grind
    · simp [Msg.rest, hq, subB, blobB, List.append_assoc]
  · have i1 := hs.in_
    have i2 : ¬ 512 < m.nums.length := by have := hs.2; simp only [In] at this; omega
    have e : m.rest ++ y = laidAll numS m.nums ++ (y) := by simp [Msg.rest, hq, subB, blobB]
    rw [e]
    simp only [Rdr.fields, getM, hq, Int.reduceEq, if_true, if_false, or_self, or_true, true_or, false_or, or_false, rints_back i1 i2]
    refine Prod.ext ?_ ?_
    · simp [Msg.iff, hq]; grind
    · simp [Msg.rest, hq, subB, blobB, List.append_assoc]
  · obtain ⟨o1, o2, o3⟩ := hs
    simp only [In] at o1 o2
    have a1 : Rng m.blob.owner := ⟨by omega, by omega⟩
    have a2 : Rng m.blob.num := ⟨by omega, by omega⟩
    have t1 : m.blob.cipher.length ≤ 16384 := by omega
    have e : m.rest ++ y = numS m.blob.owner ++ (numS m.blob.num ++ (textS m.blob.cipher ++ (digS m.blob.tag ++ (y)))) := by simp [Msg.rest, hq, subB, blobB]
    rw [e]
    simp only [Rdr.fields, getM, hq, Int.reduceEq, if_true, if_false, or_self, or_true, true_or, false_or, or_false, int_back' a1, int_back' a2, rtext_back t1, rdig_back]
    refine Prod.ext ?_ ?_
    · simp [Msg.iff, hq]; grind
    · simp [Msg.rest, hq, subB, blobB, List.append_assoc]
  · have i1 := hs.in_
    have i2 : ¬ 512 < m.nums.length := by have := hs.2; simp only [In] at this; omega
    have e : m.rest ++ y = laidAll numS m.nums ++ (y) := by simp [Msg.rest, hq, subB, blobB]
    rw [e]
    simp only [Rdr.fields, getM, hq, Int.reduceEq, if_true, if_false, or_self, or_true, true_or, false_or, or_false, rints_back i1 i2]
    refine Prod.ext ?_ ?_
    · simp [Msg.iff, hq]; grind
    · simp [Msg.rest, hq, subB, blobB, List.append_assoc]
  · have i1 := hs.in_
    have i2 : ¬ 512 < m.nums.length := by have := hs.2; simp only [In] at this; omega
    have e : m.rest ++ y = laidAll numS m.nums ++ (y) := by simp [Msg.rest, hq, subB, blobB]
    rw [e]
    simp only [Rdr.fields, getM, hq, Int.reduceEq, if_true, if_false, or_self, or_true, true_or, false_or, or_false, rints_back i1 i2]
    refine Prod.ext ?_ ?_
    · simp [Msg.iff, hq]; grind
    · simp [Msg.rest, hq, subB, blobB, List.append_assoc]
  · have h0 := hq
    have e : m.rest ++ y = y := by simp [Msg.rest, hq, subB, blobB]
    rw [e]
    simp only [Rdr.fields, getM, hq, Int.reduceEq, if_true, if_false, or_self, or_true, true_or, false_or, or_false, rdig_back]
    refine Prod.ext ?_ ?_
    · simp [Msg.iff, hq]; grind
    · simp [Msg.rest, hq, subB, blobB, List.append_assoc]
  · obtain ⟨o1, _, _, v1, _⟩ := hs
    simp only [In] at o1
    have a1 : Rng m.by_ := ⟨by omega, by omega⟩
    have t1 : m.view.length ≤ 16384 := by omega
    have e : m.rest ++ y = numS m.by_ ++ (textS m.view ++ (digS m.tag ++ (digS m.own ++ (y)))) := by simp [Msg.rest, hq, subB, blobB]
    rw [e]
    simp only [Rdr.fields, getM, hq, Int.reduceEq, if_true, if_false, or_self, or_true, true_or, false_or, or_false, int_back' a1, rtext_back t1, rdig_back]
    refine Prod.ext ?_ ?_
    · simp [Msg.iff, hq]; grind
    · simp [Msg.rest, hq, subB, blobB, List.append_assoc]
  · have h0 := hq
    have e : m.rest ++ y = digS m.own ++ (y) := by simp [Msg.rest, hq, subB, blobB]
    rw [e]
    simp only [Rdr.fields, getM, hq, Int.reduceEq, if_true, if_false, or_self, or_true, true_or, false_or, or_false, rdig_back]
    refine Prod.ext ?_ ?_
    · simp [Msg.iff, hq]; grind
    · simp [Msg.rest, hq, subB, blobB, List.append_assoc]
theorem get_back {m : Msg} (hok : m.Ok) : getR m.bytes = (m, 0) := by
  have hk := hok.kinds
  have hc := hok.2.1
  simp only [In] at hc
  have hkk : 1 ≤ m.kind ∧ m.kind ≤ 11 := by omega
  have a1 : Rng m.kind := ⟨by omega, by omega⟩
  have a2 : Rng m.client := ⟨by omega, by omega⟩
  have hin : In 1 11 m.kind := hkk
  have e0 : ∀ x y, (rdAt x y).e = 0 := fun _ _ => rfl
  have hA : getA m.bytes = (m.kind, rdAt (numS m.kind) ((if m.kind = 2 ∨ m.kind = 4 ∨ m.kind = 6 then [] else [m.client].flatMap numS) ++ m.rest)) := by
    have e : (⟨m.bytes, 0, 0⟩ : Rdr) = rdAt [] (numS m.kind ++ ((if m.kind = 2 ∨ m.kind = 4 ∨ m.kind = 6 then [] else [m.client].flatMap numS) ++ m.rest)) := by
      simp [rdAt, Msg.bytes]
    simp only [getA, e, int_back' a1, hin, not_true_eq_false, and_false, if_false, List.nil_append]
  have hB : ∃ x, getB (getA m.bytes) = (m.client, rdAt x m.rest) ∧ x ++ m.rest = m.bytes := by
    rw [hA]
    unfold getB
    by_cases h : m.kind = 2 ∨ m.kind = 4 ∨ m.kind = 6
    · rw [if_pos h, if_pos h]
      have h0 : m.client = 0 := by
        have ho := hok.2.2
        rcases h with h | h | h <;> simp [Msg.own_, h, Msg.iff] at ho <;> omega
      exact ⟨numS m.kind, by rw [h0]; simp, by simp [Msg.bytes, h]⟩
    · rw [if_neg h, if_neg h]
      simp only [List.flatMap_cons, List.flatMap_nil, List.append_nil, int_back' a2]
      exact ⟨_, rfl, by simp [Msg.bytes, h]⟩
  obtain ⟨x, hB, hx⟩ := hB
  have hC : getC m.bytes = (m, rdAt (x ++ m.rest) []) := by
    have h := fields_back hok (x := x) (y := [])
    rw [List.append_nil] at h
    simp only [getC, hB]
    rw [hA]; exact h
  have h1 : ¬ (((x ++ m.rest).length : Int) < (m.bytes.length : Int) ∨ ¬ m.Ok) := by rw [hx]; simp [hok]
  simp only [getR, hC, e0, ne_eq, not_true_eq_false, if_false]
  rw [if_neg (by simpa [rdAt] using h1)]
end Go.Aff.L10

/- Layer 10, walked: awake, light. -/
-- cuts
namespace Go.Aff.L10
open Go.Proofs Go.Aff Go.Aff.L01 Classical
set_option linter.unusedVariables false
set_option linter.unusedSimpArgs false
set_option maxRecDepth 20000
attribute [local go_sem] push_app app_app length_app cellAt_app cellAt_app0 set_app set_app0 objs_app objs_app0 List.cons_append List.nil_append List.length_cons List.length_nil List.getElem?_cons_zero List.getElem?_cons_succ List.set_cons_zero List.set_cons_succ List.length_map
attribute [-go_sem] cellAt_new
attribute [-simp] List.length_flatMap
attribute [local go_sem] Try.underlying3 Try.underlying4 Try.underlying5 Try.underlying9 Try.underlying22 Try.underlying23 Try.underlying26 Try.underlying31 Try.underlying34 Try.underlying52 subPs_0 subAt_0 subSet_0 subPs_1 subAt_1 subSet_1 subPs_2 subAt_2 subSet_2 subPs_3 subAt_3 subSet_3 subPs_4 subAt_4 subSet_4 subPs_5 subAt_5 subSet_5 sizes_sub shapes_sub fits_sub zero_sub zt_sub built_sub Try.underlying25 pendPs_0 pendAt_0 pendSet_0 pendPs_1 pendAt_1 pendSet_1 pendPs_2 pendAt_2 pendSet_2 pendPs_3 pendAt_3 pendSet_3 pendPs_4 pendAt_4 pendSet_4 pendPs_5 pendAt_5 pendSet_5 sizes_pend shapes_pend fits_pend zero_pend zt_pend built_pend Try.underlying98 repPs_0 repAt_0 repSet_0 repPs_1 repAt_1 repSet_1 repPs_2 repAt_2 repSet_2 repPs_3 repAt_3 repSet_3 repPs_4 repAt_4 repSet_4 repPs_5 repAt_5 repSet_5 repPs_6 repAt_6 repSet_6 repPs_7 repAt_7 repSet_7 repPs_8 repAt_8 repSet_8 repPs_9 repAt_9 repSet_9 sizes_rep shapes_rep fits_rep zero_rep zt_rep built_rep Try.underlying28 blobPs_0 blobAt_0 blobSet_0 blobPs_1 blobAt_1 blobSet_1 blobPs_2 blobAt_2 blobSet_2 blobPs_3 blobAt_3 blobSet_3 sizes_blob shapes_blob fits_blob zero_blob zt_blob built_blob Try.underlying30 msgPs_0 msgAt_0 msgSet_0 msgPs_1 msgAt_1 msgSet_1 msgPs_2 msgAt_2 msgSet_2 msgPs_3 msgAt_3 msgSet_3 msgPs_4 msgAt_4 msgSet_4 msgPs_5 msgAt_5 msgSet_5 msgPs_6 msgAt_6 msgSet_6 msgPs_7 msgAt_7 msgSet_7 msgPs_8 msgAt_8 msgSet_8 msgPs_9 msgAt_9 msgSet_9 sizes_msg shapes_msg fits_msg zero_msg zt_msg built_msg Try.underlying33 at_Ps_0 at_At_0 at_Set_0 at_Ps_1 at_At_1 at_Set_1 sizes_at_ shapes_at_ fits_at_ zero_at_ zt_at_ built_at_ Try.underlying77
attribute [local go_sem] fits3 fits4 fits5 fits9 fits23 fits26 fits31 fits34 fits52 zt3 zero3 zt34 zero34 zt23 zero23 bin_sub_eql bin_pend_eql bin_pend_neq bin_blob_eql bin_dig23_eql bin_dig23_neq slice23
attribute [local go_sem ↓] blockQ_exit2
attribute [local simp] dig_ext
attribute [local go_sem] rdrPs_0 rdrAt_0 rdrSet_0 rdrPs_1 rdrAt_1 rdrSet_1 rdrPs_2 rdrAt_2 rdrSet_2 sizes_rdr shapes_rdr fits_rdr zero_rdr zt_rdr built_rdr Try.underlying72 Try.underlying70 Try.underlying75 bin_bool_ne appc appn built23
attribute [local go_sem] msgSet_9s slV_eq
theorem Msg.Ok.lens {m : Msg} (h : m.Ok) : m.view.length ≤ 512 ∧ m.sub.value.length ≤ 256 ∧ m.rep.view.length ≤ 512 ∧ m.rep.seen.length ≤ 512 ∧ m.rep.value.length ≤ 256 ∧ m.rep.pending.length ≤ 8 ∧ m.blob.cipher.length ≤ 4096 ∧ m.nums.length ≤ 64 := by
  have hk := h.kinds
  have ho := h.2.2
  rcases hk with ⟨hq, hs⟩ | ⟨hq, hs⟩ | ⟨hq, hs⟩ | ⟨hq, hs⟩ | ⟨hq, hs⟩ | ⟨hq, hs⟩ | ⟨hq, hs⟩ | ⟨hq, hs⟩ | hq | ⟨hq, hs⟩ | hq
  all_goals
    simp only [Msg.own_, hq] at ho
    simp only [Msg.iff] at ho
    simp [msg0] at ho
    obtain ⟨_, ho⟩ := ho
    try simp only [In, ViewOk, Sub.Ok, Rep.Ok, Blob.Ok, NumsOk] at hs
    refine ⟨?_, ?_, ?_, ?_, ?_, ?_, ?_, ?_⟩ <;> (first | omega | grind [rep0, sub0, blob0])
theorem light_c {m : Msg} {t u : Tk} {σ : AST} {K : AV → AST → Prop} (hK : ∀ b : Bool, (m.Ok → b = true) → K (.bool b) σ) : TCalls Try.prog 10 [msgV t u m] σ K := by
  refine TCalls.drop ?_
  refine tcalls_walk Try.f10 _ [.tmp 2] Try.func10 rfl rfl rfl mixed (Nat.le_of_ble_eq_true rfl) rfl fun hlen => ?_
  repeat' (first | (simp -dsimp only [↓reduceIte, go_sem]) | (refine arr_intro fun _ => ?_) | (refine later_intro ⟨keeps_nil, ?_⟩) | (refine later_intro ⟨keeps_refl, ?_⟩) | (with_reducible refine keeps_go ?_ ?_; focus (simp [keeps_cons, keeps_none, objs_app, objs_app0]; done)) | (refine both_ways ?_ ?_) | (rw [wrap_i64 (by omega) (by omega)]) | (refine guardV_split (fun h => ?_) (fun h => ?_) <;> (try rw [h]) <;> (try simp at h) <;> (try (exfalso; omega))))
  all_goals
    refine ⟨Ext.app _ _, rfl, ?_⟩
    simp only [AV.strip]
    refine hK _ fun hok => ?_
    obtain ⟨l1, l2, l3, l4, l5, l6, l7, l8⟩ := hok.lens
    first
      | omega
      | (simp; omega)
      | (rename_i h; rw [wrap_i64 (n := (m.rep.view.length : Int) + m.rep.seen.length) (by omega) (by omega), wrap_i64 (by omega) (by omega)] at h; omega)
def m9 : Msg := ⟨9, 3, msg0.sub, msg0.rep, msg0.view, msg0.by_, msg0.tag, msg0.own, msg0.blob, msg0.nums⟩
theorem m9_ok : m9.Ok := ⟨by simp [Msg.FieldsOk, m9], by simp [In, m9], by simp [Msg.own_, m9]⟩
theorem m9_bytes : m9.bytes = [57, 59, 51, 59] := by simp [Msg.bytes, Msg.rest, m9, numS, dg_small]
def m3 (d : Dig) : Msg := ⟨3, 1, sub0, rep0, [1], 0, d, dig0, blob0, []⟩
theorem m3_ok (d : Dig) : (m3 d).Ok := ⟨by simp [Msg.FieldsOk, m3, ViewOk], by simp [In, m3], by simp [Msg.own_, m3, msg0]⟩
theorem m3_bytes (d : Dig) : (m3 d).bytes = 51 :: 59 :: 49 :: 59 :: 49 :: 58 :: 1 :: 51 :: 50 :: 58 :: d.l := by
  have h32 : dg 32 = [51, 50] := by rw [dg_big (by decide), dg_small (by decide)]; rfl
  simp [Msg.bytes, Msg.rest, m3, numS, dg_small, textS, d.h, h32]
theorem m3_ne (d : Dig) : ¬ m3 d = msg0 := fun h => by have := congrArg Msg.kind h; simp [m3, msg0] at this
theorem awake_c {σ : AST} {K : AV → AST → Prop} (hK : K (.bool true) σ) : TCalls Try.prog 12 [] σ K := by
  refine TCalls.drop ?_
  refine tcalls_walk Try.f12 _ [.tmp 0] Try.func12 rfl rfl rfl mixed (Nat.le_of_ble_eq_true rfl) rfl fun hlen => ?_
  repeat' (first | (simp -dsimp only [↓reduceIte, go_sem]) | (refine arr_intro fun _ => ?_) | (refine later_intro ⟨keeps_nil, ?_⟩) | (refine later_intro ⟨keeps_refl, ?_⟩) | (with_reducible refine keeps_go ?_ ?_; focus (simp [keeps_cons, keeps_none, objs_app, objs_app0]; done)) | (refine both_ways ?_ ?_) | (rw [wrap_i64 (by omega) (by omega)]) | (refine guardV_split (fun h => ?_) (fun h => ?_) <;> (try rw [h]) <;> (try simp at h) <;> (try (exfalso; omega))))
  refine put_c (m := m9) ?_
  rw [if_pos m9_ok, m9_bytes]
  repeat' (first | (simp -dsimp only [↓reduceIte, go_sem]) | (refine arr_intro fun _ => ?_) | (refine later_intro ⟨keeps_nil, ?_⟩) | (refine later_intro ⟨keeps_refl, ?_⟩) | (with_reducible refine keeps_go ?_ ?_; focus (simp [keeps_cons, keeps_none, objs_app, objs_app0]; done)) | (refine both_ways ?_ ?_) | (rw [wrap_i64 (by omega) (by omega)]) | (refine guardV_split (fun h => ?_) (fun h => ?_) <;> (try rw [h]) <;> (try simp at h) <;> (try (exfalso; omega))))
  refine ⟨⟨5, Try.underlying23, by simp [go_sem]⟩, by decide, by decide, by decide, ?_⟩
  have h1 : (dig0.set 0 1).l[0]? = some 1 := by simp [Dig.set, dig0]
  generalize dig0.set 0 1 = d at h1 ⊢
  repeat' (first | (simp -dsimp only [↓reduceIte, go_sem]) | (refine arr_intro fun _ => ?_) | (refine later_intro ⟨keeps_nil, ?_⟩) | (refine later_intro ⟨keeps_refl, ?_⟩) | (with_reducible refine keeps_go ?_ ?_; focus (simp [keeps_cons, keeps_none, objs_app, objs_app0]; done)) | (refine both_ways ?_ ?_) | (rw [wrap_i64 (by omega) (by omega)]) | (refine guardV_split (fun h => ?_) (fun h => ?_) <;> (try rw [h]) <;> (try simp at h) <;> (try (exfalso; omega))) | (refine refBytes_c ?_) | (with_reducible refine side_later (by simp [maxL, d.h]) ?_))
  refine get_c fun t u => ?_
  rw [← m3_bytes, get_back (m3_ok d)]
  have k1 : (m3 d).view = [1] := rfl
  have k2 : (m3 d).client = 1 := rfl
  have k3 : (m3 d).tag = d := rfl
  have n3 := m3_ne d
  repeat' (first | (simp -dsimp only [↓reduceIte, go_sem, k1, k2, k3, n3, at_dig1, h1, Option.map_some]) | (refine arr_intro fun _ => ?_) | (refine later_intro ⟨keeps_nil, ?_⟩) | (refine later_intro ⟨keeps_refl, ?_⟩) | (with_reducible refine keeps_go ?_ ?_; focus (simp [keeps_cons, keeps_none, objs_app, objs_app0]; done)) | (refine both_ways ?_ ?_) | (rw [wrap_i64 (by omega) (by omega)]) | (refine guardV_split (fun h => ?_) (fun h => ?_) <;> (try rw [h]) <;> (try simp at h) <;> (try (exfalso; omega))) | (refine same_c ?_) | (refine indexAddr_dig Try.underlying23 (by simp [go_sem]) (by simp [go_sem]; rfl) (by decide) ?_))
  exact ⟨Ext.app _ _, rfl, by simpa [AV.strip] using hK⟩
end Go.Aff.L10

/- Layer 10, walked: MsgPuts. -/
-- cuts
namespace Go.Aff.L10
open Go.Proofs Go.Aff Go.Aff.L01 Classical
set_option linter.unusedVariables false
set_option linter.unusedSimpArgs false
set_option maxRecDepth 20000
attribute [local go_sem] push_app app_app length_app cellAt_app cellAt_app0 set_app set_app0 objs_app objs_app0 List.cons_append List.nil_append List.length_cons List.length_nil List.getElem?_cons_zero List.getElem?_cons_succ List.set_cons_zero List.set_cons_succ List.length_map
attribute [-go_sem] cellAt_new
attribute [-simp] List.length_flatMap
attribute [local go_sem] Try.underlying3 Try.underlying4 Try.underlying5 Try.underlying9 Try.underlying22 Try.underlying23 Try.underlying26 Try.underlying31 Try.underlying34 Try.underlying52 subPs_0 subAt_0 subSet_0 subPs_1 subAt_1 subSet_1 subPs_2 subAt_2 subSet_2 subPs_3 subAt_3 subSet_3 subPs_4 subAt_4 subSet_4 subPs_5 subAt_5 subSet_5 sizes_sub shapes_sub fits_sub zero_sub zt_sub built_sub Try.underlying25 pendPs_0 pendAt_0 pendSet_0 pendPs_1 pendAt_1 pendSet_1 pendPs_2 pendAt_2 pendSet_2 pendPs_3 pendAt_3 pendSet_3 pendPs_4 pendAt_4 pendSet_4 pendPs_5 pendAt_5 pendSet_5 sizes_pend shapes_pend fits_pend zero_pend zt_pend built_pend Try.underlying98 repPs_0 repAt_0 repSet_0 repPs_1 repAt_1 repSet_1 repPs_2 repAt_2 repSet_2 repPs_3 repAt_3 repSet_3 repPs_4 repAt_4 repSet_4 repPs_5 repAt_5 repSet_5 repPs_6 repAt_6 repSet_6 repPs_7 repAt_7 repSet_7 repPs_8 repAt_8 repSet_8 repPs_9 repAt_9 repSet_9 sizes_rep shapes_rep fits_rep zero_rep zt_rep built_rep Try.underlying28 blobPs_0 blobAt_0 blobSet_0 blobPs_1 blobAt_1 blobSet_1 blobPs_2 blobAt_2 blobSet_2 blobPs_3 blobAt_3 blobSet_3 sizes_blob shapes_blob fits_blob zero_blob zt_blob built_blob Try.underlying30 msgPs_0 msgAt_0 msgSet_0 msgPs_1 msgAt_1 msgSet_1 msgPs_2 msgAt_2 msgSet_2 msgPs_3 msgAt_3 msgSet_3 msgPs_4 msgAt_4 msgSet_4 msgPs_5 msgAt_5 msgSet_5 msgPs_6 msgAt_6 msgSet_6 msgPs_7 msgAt_7 msgSet_7 msgPs_8 msgAt_8 msgSet_8 msgPs_9 msgAt_9 msgSet_9 sizes_msg shapes_msg fits_msg zero_msg zt_msg built_msg Try.underlying33 at_Ps_0 at_At_0 at_Set_0 at_Ps_1 at_At_1 at_Set_1 sizes_at_ shapes_at_ fits_at_ zero_at_ zt_at_ built_at_ Try.underlying77
attribute [local go_sem] fits3 fits4 fits5 fits9 fits23 fits26 fits31 fits34 fits52 zt3 zero3 zt34 zero34 zt23 zero23 bin_sub_eql bin_pend_eql bin_pend_neq bin_blob_eql bin_dig23_eql bin_dig23_neq slice23
attribute [local go_sem ↓] blockQ_exit2
attribute [local simp] dig_ext
attribute [local go_sem] rdrPs_0 rdrAt_0 rdrSet_0 rdrPs_1 rdrAt_1 rdrSet_1 rdrPs_2 rdrAt_2 rdrSet_2 sizes_rdr shapes_rdr fits_rdr zero_rdr zt_rdr built_rdr Try.underlying72 Try.underlying70 Try.underlying75 bin_bool_ne appc appn built23
attribute [local go_sem] msgSet_9s slV_eq
theorem bytes_ne {m : Msg} : m.bytes ≠ [] := by
  have : ∀ n, numS n ≠ [] := fun n => by simp [numS]
  simp [Msg.bytes, this]
theorem msgPuts_c {m : Msg} (hw : Rng m.by_) {t u : Tk} {σ : AST} {K : AV → AST → Prop} (hK : K (.bool true) σ) : TCalls Try.prog 3 [msgV t u m] σ K := by
  refine TCalls.drop ?_
  refine tcalls_walk Try.f3 _ [.tmp 2] Try.func3 rfl rfl rfl mixed (Nat.le_of_ble_eq_true rfl) rfl fun hlen => ?_
  simp -dsimp only [↓reduceIte, go_sem]
  refine put_c ?_
  by_cases hok : m.Ok
  · rw [if_pos hok]
    repeat' (first | (simp -dsimp only [↓reduceIte, go_sem, hok]) | (refine arr_intro fun _ => ?_) | (refine later_intro ⟨keeps_nil, ?_⟩) | (refine later_intro ⟨keeps_refl, ?_⟩) | (with_reducible refine keeps_go ?_ ?_; focus (simp [keeps_cons, keeps_none, objs_app, objs_app0]; done)) | (refine both_ways ?_ ?_) | (rw [wrap_i64 (by omega) (by omega)]) | (refine guardV_split (fun h => ?_) (fun h => ?_) <;> (try rw [h]) <;> (try simp at h) <;> (try (exfalso; omega))) | (refine light_c fun b hb => ?_) | (refine refRight_c hw ?_) | (refine awake_c ?_) | (refine lay_c hok ?_))
    all_goals (first | exact ⟨Ext.app _ _, rfl, by simpa [AV.strip] using hK⟩ | (exfalso; have := hb hok; simp_all) | (exfalso; exact bytes_ne ‹_›))
  · rw [if_neg hok]
    repeat' (first | (simp -dsimp only [↓reduceIte, go_sem, hok]) | (refine arr_intro fun _ => ?_) | (refine later_intro ⟨keeps_nil, ?_⟩) | (refine later_intro ⟨keeps_refl, ?_⟩) | (with_reducible refine keeps_go ?_ ?_; focus (simp [keeps_cons, keeps_none, objs_app, objs_app0]; done)) | (refine both_ways ?_ ?_) | (rw [wrap_i64 (by omega) (by omega)]) | (refine guardV_split (fun h => ?_) (fun h => ?_) <;> (try rw [h]) <;> (try simp at h) <;> (try (exfalso; omega))) | (refine light_c fun b hb => ?_) | (refine refRight_c hw ?_) | (refine awake_c ?_))
    all_goals (first | exact ⟨Ext.app _ _, rfl, by simpa [AV.strip] using hK⟩ | (exfalso; have := hb hok; simp_all) | (exfalso; exact bytes_ne ‹_›))
theorem msgSame_c {a b : Msg} {t u v w : Tk} {σ : AST} {K : AV → AST → Prop} (hK : K (.bool true) σ) : TCalls Try.prog 6 [msgV t u a, msgV v w b] σ K := by
  refine TCalls.drop ?_
  refine tcalls_walk Try.f6 _ [.tmp 4] Try.func6 rfl rfl rfl mixed (Nat.le_of_ble_eq_true rfl) rfl fun hlen => ?_
  repeat' (first | (simp -dsimp only [↓reduceIte, go_sem]) | (refine arr_intro fun _ => ?_) | (refine later_intro ⟨keeps_nil, ?_⟩) | (refine later_intro ⟨keeps_refl, ?_⟩) | (with_reducible refine keeps_go ?_ ?_; focus (simp [keeps_cons, keeps_none, objs_app, objs_app0]; done)) | (refine both_ways ?_ ?_) | (rw [wrap_i64 (by omega) (by omega)]) | (refine guardV_split (fun h => ?_) (fun h => ?_) <;> (try rw [h]) <;> (try simp at h) <;> (try (exfalso; omega))) | (with_reducible refine awp_drawS (id := 1) [0, 1, 2, 3, 5, 6, 4, 7, 8, 9, 10, 11, 12, 13, 14, 15, 16, 17, 19, 20, 18, 21, 22, 23, 24] (by kernel_rfl) ?_) | (refine awake_c ?_) | (refine same_c ?_) | (refine refSame_c ?_))
  have hba : decide (b = a) = decide (a = b) := by rw [Bool.eq_iff_iff]; simp only [decide_eq_true_eq]; exact ⟨Eq.symm, Eq.symm⟩
  rw [hba, beq_self_eq_true]
  exact ⟨Ext.app _ _, rfl, by simpa [AV.strip] using hK⟩
end Go.Aff.L10

