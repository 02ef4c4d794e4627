import Derived.Test.YtnpbneiaflgpdaaG32

set_option linter.unusedSimpArgs false
set_option linter.unusedVariables false

/- Layer 10, walked: the reference's reader. -/
-- cuts
namespace Go.Aff.L10
open Go.Proofs Go.Aff Go.Aff.L01 Classical
set_option linter.unusedVariables false
set_option linter.unusedSimpArgs false
set_option maxRecDepth 20000
attribute [local go_sem] push_app app_app length_app cellAt_app cellAt_app0 set_app set_app0 objs_app objs_app0 List.cons_append List.nil_append List.length_cons List.length_nil List.getElem?_cons_zero List.getElem?_cons_succ List.set_cons_zero List.set_cons_succ List.length_map
attribute [-go_sem] cellAt_new
attribute [-simp] List.length_flatMap
attribute [local go_sem] Try.underlying3 Try.underlying4 Try.underlying5 Try.underlying9 Try.underlying22 Try.underlying23 Try.underlying26 Try.underlying31 Try.underlying34 Try.underlying52 subPs_0 subAt_0 subSet_0 subPs_1 subAt_1 subSet_1 subPs_2 subAt_2 subSet_2 subPs_3 subAt_3 subSet_3 subPs_4 subAt_4 subSet_4 subPs_5 subAt_5 subSet_5 sizes_sub shapes_sub fits_sub zero_sub zt_sub built_sub Try.underlying25 pendPs_0 pendAt_0 pendSet_0 pendPs_1 pendAt_1 pendSet_1 pendPs_2 pendAt_2 pendSet_2 pendPs_3 pendAt_3 pendSet_3 pendPs_4 pendAt_4 pendSet_4 pendPs_5 pendAt_5 pendSet_5 sizes_pend shapes_pend fits_pend zero_pend zt_pend built_pend Try.underlying98 repPs_0 repAt_0 repSet_0 repPs_1 repAt_1 repSet_1 repPs_2 repAt_2 repSet_2 repPs_3 repAt_3 repSet_3 repPs_4 repAt_4 repSet_4 repPs_5 repAt_5 repSet_5 repPs_6 repAt_6 repSet_6 repPs_7 repAt_7 repSet_7 repPs_8 repAt_8 repSet_8 repPs_9 repAt_9 repSet_9 sizes_rep shapes_rep fits_rep zero_rep zt_rep built_rep Try.underlying28 blobPs_0 blobAt_0 blobSet_0 blobPs_1 blobAt_1 blobSet_1 blobPs_2 blobAt_2 blobSet_2 blobPs_3 blobAt_3 blobSet_3 sizes_blob shapes_blob fits_blob zero_blob zt_blob built_blob Try.underlying30 msgPs_0 msgAt_0 msgSet_0 msgPs_1 msgAt_1 msgSet_1 msgPs_2 msgAt_2 msgSet_2 msgPs_3 msgAt_3 msgSet_3 msgPs_4 msgAt_4 msgSet_4 msgPs_5 msgAt_5 msgSet_5 msgPs_6 msgAt_6 msgSet_6 msgPs_7 msgAt_7 msgSet_7 msgPs_8 msgAt_8 msgSet_8 msgPs_9 msgAt_9 msgSet_9 sizes_msg shapes_msg fits_msg zero_msg zt_msg built_msg Try.underlying33 at_Ps_0 at_At_0 at_Set_0 at_Ps_1 at_At_1 at_Set_1 sizes_at_ shapes_at_ fits_at_ zero_at_ zt_at_ built_at_ Try.underlying77
attribute [local go_sem] fits3 fits4 fits5 fits9 fits23 fits26 fits31 fits34 fits52 zt3 zero3 zt34 zero34 zt23 zero23 bin_sub_eql bin_pend_eql bin_pend_neq bin_blob_eql bin_dig23_eql bin_dig23_neq slice23
attribute [local go_sem ↓] blockQ_exit2
attribute [local simp] dig_ext
attribute [local go_sem] rdrPs_0 rdrAt_0 rdrSet_0 rdrPs_1 rdrAt_1 rdrSet_1 rdrPs_2 rdrAt_2 rdrSet_2 sizes_rdr shapes_rdr fits_rdr zero_rdr zt_rdr built_rdr Try.underlying72 Try.underlying70 Try.underlying75 bin_bool_ne appc appn built23

attribute [local go_sem] msgSet_9s slV_eq
theorem res_cc {P : Program} {τ : Env} {σ : AST} {a b : Nat} {ty tz : TypeId} {KV : AV → Prop} : resW P [.cell a ty, .cell b tz] τ σ KV = loadW P σ ty (τ a) (@LamA _ ⟨fun x => loadW P σ tz (τ b) (@LamA _ ⟨fun y => (x.known = true ∧ y.known = true) ∧ @Later ⟨KV (.tuple [x, y])⟩⟩)⟩) := by
  simp [resW, resList, oneRes, Later, LamA]
attribute [local go_sem ↓] res_cc
theorem textR_err {s : List UInt8} {i : Int} (h : (textR s i).2.2 ≠ 0) : (textR s i).1 = [] := by
  unfold textR at h ⊢
  split
  · rfl
  · rename_i h1
    rw [if_neg h1] at h
    unfold textP at h ⊢
    split
    · rfl
    · rename_i h2
      rw [if_neg h2] at h
      split
      · rfl
      · rename_i h3
        rw [if_neg h3] at h
        split
        · rfl
        · rename_i h4
          rw [if_neg h4] at h
          exact absurd rfl h
theorem text_err {r : Rdr} (h : r.text.2.e ≠ 0) : r.text.1 = [] := by
  unfold Rdr.text at h ⊢
  split
  · rfl
  · rename_i h1
    rw [if_neg h1] at h
    exact textR_err h
/-- The reference's place, and the reader's. -/
structure Sim (s : List UInt8) (r : Rdr) (a : At) : Prop where
  q : r.s = s
  e : a.e = r.e
  p : r.e = 0 → a.n = r.at_ ∧ 0 ≤ r.at_ ∧ r.at_ ≤ s.length
  l : s.length ≤ 9223372036854775807
theorem refInt_c {s : List UInt8} {r : Rdr} {a : At} {σ : AST} {K : AV → AST → Prop} (hS : Sim s r a) (hK : ∀ b, Sim s r.int.2 b → K (.tuple [.int .i64 r.int.1, at_V b]) σ) : TCalls Try.prog 45 [.str s, at_V a] σ K := by
  refine TCalls.drop ?_
  refine tcalls_walk Try.f45 _ [.tmp 4, .cell 5 77] Try.func45 rfl rfl rfl mixed (Nat.le_of_ble_eq_true rfl) rfl fun hlen => ?_
  have hl := hS.l
  by_cases he : r.e = 0
  · obtain ⟨p1, p2, p3⟩ := hS.p he
    have ha : a.e = 0 := by rw [hS.e, he]
    have e : r.int = ((numR s a.n).1, { r with at_ := (numR s a.n).2.1, e := (numR s a.n).2.2 }) := by rw [Rdr.int, if_neg (by simp [he])]; rw [hS.q, p1]
    rw [e] at hK
    repeat' (first | (simp -dsimp only [↓reduceIte, go_sem, ha, tup3, tupT]) | (refine arr_intro fun _ => ?_) | (refine later_intro ⟨keeps_nil, ?_⟩) | (refine later_intro ⟨keeps_refl, ?_⟩) | (with_reducible refine keeps_go ?_ ?_; focus (simp [keeps_cons, keeps_none, objs_app, objs_app0]; done)) | (refine both_ways ?_ ?_) | (rw [wrap_i64 (by omega) (by omega)]) | (refine guardV_split (fun h => ?_) (fun h => ?_) <;> (try rw [h]) <;> (try simp at h) <;> (try (exfalso; omega))) | (refine L01.ReadNumber_c (by omega) (by omega) ?_))
    refine ⟨Ext.app _ _, rfl, ?_⟩
    have hb : Sim s { r with at_ := (numR s a.n).2.1, e := (numR s a.n).2.2 } ⟨(numR s a.n).2.1, (numR s a.n).2.2⟩ := ⟨hS.q, rfl, fun h0 => by have := prog_num (s := s) (i := a.n) h0; exact ⟨rfl, by dsimp only; omega, by dsimp only; omega⟩, hl⟩
    simpa [AV.strip, AV.strips, strip_at_] using hK _ hb
  · have ha : ¬ a.e = 0 := by rw [hS.e]; exact he
    have e : r.int = (0, r) := by rw [Rdr.int, if_pos he]
    rw [e] at hK
    repeat' (first | (simp -dsimp only [↓reduceIte, go_sem, ha]) | (refine arr_intro fun _ => ?_) | (refine later_intro ⟨keeps_nil, ?_⟩) | (refine later_intro ⟨keeps_refl, ?_⟩) | (with_reducible refine keeps_go ?_ ?_; focus (simp [keeps_cons, keeps_none, objs_app, objs_app0]; done)) | (refine both_ways ?_ ?_) | (rw [wrap_i64 (by omega) (by omega)]) | (refine guardV_split (fun h => ?_) (fun h => ?_) <;> (try rw [h]) <;> (try simp at h) <;> (try (exfalso; omega))) | (with_reducible refine awp_drawT (id := 2) (.op 0 2 (.op 1 2 (.op 2 1 .nil))) (by kernel_rfl) ?_))
    refine ⟨Ext.app _ _, rfl, ?_⟩
    simpa [AV.strip, AV.strips, strip_at_] using hK a hS
theorem refStr_c {s : List UInt8} {r : Rdr} {a : At} {σ : AST} {K : AV → AST → Prop} (hS : Sim s r a) (hK : ∀ b, Sim s r.text.2 b → K (.tuple [.str r.text.1, at_V b]) σ) : TCalls Try.prog 73 [.str s, at_V a] σ K := by
  refine TCalls.drop ?_
  refine tcalls_walk Try.f73 _ [.tmp 4, .cell 5 77] Try.func73 rfl rfl rfl mixed (Nat.le_of_ble_eq_true rfl) rfl fun hlen => ?_
  have hl := hS.l
  by_cases he : r.e = 0
  · obtain ⟨p1, p2, p3⟩ := hS.p he
    have ha : a.e = 0 := by rw [hS.e, he]
    have e : r.text = ((textR s a.n).1, { r with at_ := (textR s a.n).2.1, e := (textR s a.n).2.2 }) := by rw [Rdr.text, if_neg (by simp [he])]; rw [hS.q, p1]
    rw [e] at hK
    repeat' (first | (simp -dsimp only [↓reduceIte, go_sem, ha, tup3, tupT]) | (refine arr_intro fun _ => ?_) | (refine later_intro ⟨keeps_nil, ?_⟩) | (refine later_intro ⟨keeps_refl, ?_⟩) | (with_reducible refine keeps_go ?_ ?_; focus (simp [keeps_cons, keeps_none, objs_app, objs_app0]; done)) | (refine both_ways ?_ ?_) | (rw [wrap_i64 (by omega) (by omega)]) | (refine guardV_split (fun h => ?_) (fun h => ?_) <;> (try rw [h]) <;> (try simp at h) <;> (try (exfalso; omega))) | (refine L01.ReadText_c (by omega) (by omega) ?_))
    refine ⟨Ext.app _ _, rfl, ?_⟩
    have hb : Sim s { r with at_ := (textR s a.n).2.1, e := (textR s a.n).2.2 } ⟨(textR s a.n).2.1, (textR s a.n).2.2⟩ := ⟨hS.q, rfl, fun h0 => by have := prog_text (s := s) (i := a.n) h0; exact ⟨rfl, by dsimp only; omega, by dsimp only; omega⟩, hl⟩
    simpa [AV.strip, AV.strips, strip_at_] using hK _ hb
  · have ha : ¬ a.e = 0 := by rw [hS.e]; exact he
    have e : r.text = ([], r) := by rw [Rdr.text, if_pos he]
    rw [e] at hK
    repeat' (first | (simp -dsimp only [↓reduceIte, go_sem, ha]) | (refine arr_intro fun _ => ?_) | (refine later_intro ⟨keeps_nil, ?_⟩) | (refine later_intro ⟨keeps_refl, ?_⟩) | (with_reducible refine keeps_go ?_ ?_; focus (simp [keeps_cons, keeps_none, objs_app, objs_app0]; done)) | (refine both_ways ?_ ?_) | (rw [wrap_i64 (by omega) (by omega)]) | (refine guardV_split (fun h => ?_) (fun h => ?_) <;> (try rw [h]) <;> (try simp at h) <;> (try (exfalso; omega))) | (with_reducible refine awp_drawT (id := 2) (.op 0 2 (.op 1 2 (.op 2 1 .nil))) (by kernel_rfl) ?_))
    refine ⟨Ext.app _ _, rfl, ?_⟩
    simpa [AV.strip, AV.strips, strip_at_] using hK a hS
theorem refDigest_c {s : List UInt8} {r : Rdr} {a : At} {σ : AST} {K : AV → AST → Prop} (h : Sim s r a) (hK : ∀ b, Sim s r.dig.2 b → K (.tuple [.dig r.dig.1, at_V b]) σ) : TCalls Try.prog 74 [.str s, at_V a] σ K := by
  refine TCalls.drop ?_
  refine tcalls_walk Try.f74 _ [.cell 4 23, .cell 5 77] Try.func74 rfl rfl rfl mixed (Nat.le_of_ble_eq_true rfl) rfl fun hlen => ?_
  repeat' (first | (simp -dsimp only [↓reduceIte, go_sem]) | (refine arr_intro fun _ => ?_) | (refine later_intro ⟨keeps_nil, ?_⟩) | (refine later_intro ⟨keeps_refl, ?_⟩) | (with_reducible refine keeps_go ?_ ?_; focus (simp [keeps_cons, keeps_none, objs_app, objs_app0]; done)) | (refine both_ways ?_ ?_) | (rw [wrap_i64 (by omega) (by omega)]) | (refine guardV_split (fun h => ?_) (fun h => ?_) <;> (try rw [h]) <;> (try simp at h) <;> (try (exfalso; omega))))
  refine refStr_c h fun b hb => ?_
  by_cases he : r.text.2.e = 0
  · have ha : b.e = 0 := by rw [hb.e, he]
    by_cases h32 : r.text.1.length = 32
    · have hb0 := hb
      have e : r.dig = (⟨r.text.1, h32⟩, r.text.2) := by
        have : digOf r.text.1 = (⟨r.text.1, h32⟩, 0) := by unfold digOf; rw [dif_pos h32]
        simp only [Rdr.dig, this]; simp
      rw [e] at hK
      generalize r.text.1 = t at *
      repeat' (first | (simp -dsimp only [↓reduceIte, go_sem, ha, h32]) | (refine arr_intro fun _ => ?_) | (refine later_intro ⟨keeps_nil, ?_⟩) | (refine later_intro ⟨keeps_refl, ?_⟩) | (with_reducible refine keeps_go ?_ ?_; focus (simp [keeps_cons, keeps_none, objs_app, objs_app0]; done)) | (refine both_ways ?_ ?_) | (rw [wrap_i64 (by omega) (by omega)]) | (refine guardV_split (fun h => ?_) (fun h => ?_) <;> (try rw [h]) <;> (try simp at h) <;> (try (exfalso; omega))))
      refine awp_rounds (fun (i : Nat) τ st => ∃ d : Dig, i ≤ 32 ∧ d.l.take i = t.take i ∧ st = σ.app [.cells (at_V a), .cells (.dig dig0), .cells (at_V at_0), .cells (.dig d), .cells (at_V b)] ∧ τ 4 = .ptr (some (σ.objs.length + 1, [])) ∧ τ 5 = .ptr (some (σ.objs.length + 2, [])) ∧ τ 6 = .ptr (some (σ.objs.length + 3, [])) ∧ τ 7 = .str t ∧ τ 8 = .ptr (some (σ.objs.length + 4, [])) ∧ τ 9 = .int .i64 i) (fun i => 32 - i) 0 ?_ ?_
      · refine ⟨dig0, by omega, by simp, rfl, ?_, ?_, ?_, ?_, ?_, ?_⟩ <;> (try simp only [go_sem]) <;> rfl
      · rintro i τ st ⟨d, hi, hd, rfl, t4, t5, t6, t7, t8, t9⟩
        simp -dsimp only [↓reduceIte, go_sem, t4, t5, t6, t7, t8, t9]
        refine boolW_split (fun hb => ?_) (fun hb => ?_)
        · have hb : i < 32 := by simp at hb; omega
          obtain ⟨y, hy, hm⟩ := get_of_lt (l := t) (i := i) (by omega)
          have hdl := d.h
          obtain ⟨y2, hy2, hm2⟩ := get_of_lt (l := d.l) (i := i) (by omega)
          repeat' (first | (simp -dsimp only [↓reduceIte, go_sem, t4, t5, t6, t7, t8, t9, at_dig1, hy2, Option.map_some]) | (refine arr_intro fun _ => ?_) | (refine later_intro ⟨keeps_nil, ?_⟩) | (refine later_intro ⟨keeps_refl, ?_⟩) | (with_reducible refine keeps_go ?_ ?_; focus (simp [keeps_cons, keeps_none, objs_app, objs_app0]; done)) | (refine both_ways ?_ ?_) | (rw [wrap_i64 (by omega) (by omega)]) | (refine guardV_split (fun h => ?_) (fun h => ?_) <;> (try rw [h]) <;> (try simp at h) <;> (try (exfalso; omega))) | (refine nth_get hy ?_) | (refine indexAddr_dig Try.underlying23 (by simp [go_sem]) (by simp [go_sem]; rfl) hb ?_))
          have hyy := y.toNat_lt
          refine side_later (by simp [setOk]; omega) ?_
          repeat' (first | (simp -dsimp only [↓reduceIte, go_sem, t4, t5, t6, t7, t8, t9, AV.setAt]) | (refine arr_intro fun _ => ?_) | (refine later_intro ⟨keeps_nil, ?_⟩) | (refine later_intro ⟨keeps_refl, ?_⟩) | (with_reducible refine keeps_go ?_ ?_; focus (simp [keeps_cons, keeps_none, objs_app, objs_app0]; done)) | (refine both_ways ?_ ?_) | (rw [wrap_i64 (by omega) (by omega)]) | (refine guardV_split (fun h => ?_) (fun h => ?_) <;> (try rw [h]) <;> (try simp at h) <;> (try (exfalso; omega))))
          have e5 : UInt8.ofNat (Int.toNat (y.toNat : Int)) = y := by simp
          have e6 : (d.set i (y.toNat : Int)).l.take (i + 1) = t.take (i + 1) := by
            simp only [Dig.set, e5]
            rw [List.take_add_one, List.getElem?_set_self (by omega), List.take_add_one (l := t), hy, ← hd, List.take_set]
            rw [List.set_eq_of_length_le (by simp; omega)]
          refine later_intro ⟨i + 1, by omega, d.set i (y.toNat : Int), by omega, e6, rfl, ?_, ?_, ?_, ?_, ?_, ?_⟩ <;> (try simp only [go_sem, t4, t5, t6, t7, t8, t9]) <;> rfl
        · have hb : i = 32 := by simp at hb; omega
          subst hb
          have ed : d = ⟨t, h32⟩ := by
            cases d with
            | mk l hl =>
              simp only [List.take_of_length_le (Nat.le_of_eq hl), List.take_of_length_le (Nat.le_of_eq h32)] at hd
              subst hd; rfl
          subst ed
          repeat' (first | (simp -dsimp only [↓reduceIte, go_sem, t4, t5, t6, t7, t8, t9]) | (refine arr_intro fun _ => ?_) | (refine later_intro ⟨keeps_nil, ?_⟩) | (refine later_intro ⟨keeps_refl, ?_⟩) | (with_reducible refine keeps_go ?_ ?_; focus (simp [keeps_cons, keeps_none, objs_app, objs_app0]; done)) | (refine both_ways ?_ ?_) | (rw [wrap_i64 (by omega) (by omega)]) | (refine guardV_split (fun h => ?_) (fun h => ?_) <;> (try rw [h]) <;> (try simp at h) <;> (try (exfalso; omega))) | (with_reducible refine awp_drawU (id := 11) (.op 0 2 (.op 1 0 (.op 2 1 (.cut (.op 3 1 .nil))))) (by kernel_rfl) ?_))
          refine ⟨Ext.app _ _, rfl, ?_⟩
          simpa [AV.strip, AV.strips, strip_at_] using hK b hb0
    · have e : r.dig = (dig0, { r.text.2 with e := 6 }) := by
        have : digOf r.text.1 = (dig0, if r.text.1.length < 32 then 5 else 6) := by unfold digOf; rw [dif_neg h32]
        simp only [Rdr.dig, this]
        rw [if_pos ⟨he, by split <;> decide⟩]
      rw [e] at hK
      repeat' (first | (simp -dsimp only [↓reduceIte, go_sem, ha, h32]) | (refine arr_intro fun _ => ?_) | (refine later_intro ⟨keeps_nil, ?_⟩) | (refine later_intro ⟨keeps_refl, ?_⟩) | (with_reducible refine keeps_go ?_ ?_; focus (simp [keeps_cons, keeps_none, objs_app, objs_app0]; done)) | (refine both_ways ?_ ?_) | (rw [wrap_i64 (by omega) (by omega)]) | (refine guardV_split (fun h => ?_) (fun h => ?_) <;> (try rw [h]) <;> (try simp at h) <;> (try (exfalso; omega))) | (with_reducible refine awp_drawU (id := 4) (.op 0 2 (.op 1 0 (.op 2 1 (.cut (.op 3 1 .nil))))) (by kernel_rfl) ?_))
      refine ⟨Ext.app _ _, rfl, ?_⟩
      simpa [AV.strip, AV.strips, strip_at_] using hK ⟨at_0.n, 6⟩ ⟨hb.q, rfl, fun h0 => by simp at h0, hb.l⟩
  · have ha : ¬ b.e = 0 := by rw [hb.e]; exact he
    have e : r.dig = (dig0, r.text.2) := by
      simp only [Rdr.dig]
      rw [if_neg (fun h => he h.1)]
      have h0 : r.text.1 = [] := text_err he
      rw [h0]; unfold digOf; simp
    rw [e] at hK
    repeat' (first | (simp -dsimp only [↓reduceIte, go_sem, ha]) | (refine arr_intro fun _ => ?_) | (refine later_intro ⟨keeps_nil, ?_⟩) | (refine later_intro ⟨keeps_refl, ?_⟩) | (with_reducible refine keeps_go ?_ ?_; focus (simp [keeps_cons, keeps_none, objs_app, objs_app0]; done)) | (refine both_ways ?_ ?_) | (rw [wrap_i64 (by omega) (by omega)]) | (refine guardV_split (fun h => ?_) (fun h => ?_) <;> (try rw [h]) <;> (try simp at h) <;> (try (exfalso; omega))) | (with_reducible refine awp_drawU (id := 4) (.op 0 2 (.op 1 0 (.op 2 1 (.cut (.op 3 1 .nil))))) (by kernel_rfl) ?_))
    refine ⟨Ext.app _ _, rfl, ?_⟩
    simpa [AV.strip, AV.strips, strip_at_] using hK b hb
end Go.Aff.L10

/- Layer 10, walked: the reference's reader, its parts. -/
-- cuts
namespace Go.Aff.L10
open Go.Proofs Go.Aff Go.Aff.L01 Classical
set_option linter.unusedVariables false
set_option linter.unusedSimpArgs false
set_option maxRecDepth 20000
attribute [local go_sem] push_app app_app length_app cellAt_app cellAt_app0 set_app set_app0 objs_app objs_app0 List.cons_append List.nil_append List.length_cons List.length_nil List.getElem?_cons_zero List.getElem?_cons_succ List.set_cons_zero List.set_cons_succ List.length_map
attribute [-go_sem] cellAt_new
attribute [-simp] List.length_flatMap
attribute [local go_sem] Try.underlying3 Try.underlying4 Try.underlying5 Try.underlying9 Try.underlying22 Try.underlying23 Try.underlying26 Try.underlying31 Try.underlying34 Try.underlying52 subPs_0 subAt_0 subSet_0 subPs_1 subAt_1 subSet_1 subPs_2 subAt_2 subSet_2 subPs_3 subAt_3 subSet_3 subPs_4 subAt_4 subSet_4 subPs_5 subAt_5 subSet_5 sizes_sub shapes_sub fits_sub zero_sub zt_sub built_sub Try.underlying25 pendPs_0 pendAt_0 pendSet_0 pendPs_1 pendAt_1 pendSet_1 pendPs_2 pendAt_2 pendSet_2 pendPs_3 pendAt_3 pendSet_3 pendPs_4 pendAt_4 pendSet_4 pendPs_5 pendAt_5 pendSet_5 sizes_pend shapes_pend fits_pend zero_pend zt_pend built_pend Try.underlying98 repPs_0 repAt_0 repSet_0 repPs_1 repAt_1 repSet_1 repPs_2 repAt_2 repSet_2 repPs_3 repAt_3 repSet_3 repPs_4 repAt_4 repSet_4 repPs_5 repAt_5 repSet_5 repPs_6 repAt_6 repSet_6 repPs_7 repAt_7 repSet_7 repPs_8 repAt_8 repSet_8 repPs_9 repAt_9 repSet_9 sizes_rep shapes_rep fits_rep zero_rep zt_rep built_rep Try.underlying28 blobPs_0 blobAt_0 blobSet_0 blobPs_1 blobAt_1 blobSet_1 blobPs_2 blobAt_2 blobSet_2 blobPs_3 blobAt_3 blobSet_3 sizes_blob shapes_blob fits_blob zero_blob zt_blob built_blob Try.underlying30 msgPs_0 msgAt_0 msgSet_0 msgPs_1 msgAt_1 msgSet_1 msgPs_2 msgAt_2 msgSet_2 msgPs_3 msgAt_3 msgSet_3 msgPs_4 msgAt_4 msgSet_4 msgPs_5 msgAt_5 msgSet_5 msgPs_6 msgAt_6 msgSet_6 msgPs_7 msgAt_7 msgSet_7 msgPs_8 msgAt_8 msgSet_8 msgPs_9 msgAt_9 msgSet_9 sizes_msg shapes_msg fits_msg zero_msg zt_msg built_msg Try.underlying33 at_Ps_0 at_At_0 at_Set_0 at_Ps_1 at_At_1 at_Set_1 sizes_at_ shapes_at_ fits_at_ zero_at_ zt_at_ built_at_ Try.underlying77
attribute [local go_sem] fits3 fits4 fits5 fits9 fits23 fits26 fits31 fits34 fits52 zt3 zero3 zt34 zero34 zt23 zero23 bin_sub_eql bin_pend_eql bin_pend_neq bin_blob_eql bin_dig23_eql bin_dig23_neq slice23
attribute [local go_sem ↓] blockQ_exit2
attribute [local simp] dig_ext
attribute [local go_sem] rdrPs_0 rdrAt_0 rdrSet_0 rdrPs_1 rdrAt_1 rdrSet_1 rdrPs_2 rdrAt_2 rdrSet_2 sizes_rdr shapes_rdr fits_rdr zero_rdr zt_rdr built_rdr Try.underlying72 Try.underlying70 Try.underlying75 bin_bool_ne appc appn built23

attribute [local go_sem] msgSet_9s slV_eq
attribute [local go_sem ↓] res_cc
noncomputable def Rdr.sub (r : Rdr) : Sub × Rdr := (⟨r.int.1, r.int.2.int.1, r.int.2.int.2.int.1, r.int.2.int.2.int.2.text.1, r.int.2.int.2.int.2.text.2.dig.1, r.int.2.int.2.int.2.text.2.dig.2.dig.1⟩, r.int.2.int.2.int.2.text.2.dig.2.dig.2)
noncomputable def Rdr.blob (r : Rdr) : Blob × Rdr := (⟨r.int.1, r.int.2.int.1, r.int.2.int.2.text.1, r.int.2.int.2.text.2.dig.1⟩, r.int.2.int.2.text.2.dig.2)
theorem refOne_c {s : List UInt8} {r : Rdr} {a : At} {σ : AST} {K : AV → AST → Prop} (hS : Sim s r a) (hK : ∀ b, Sim s r.pend.2 b → K (.tuple [pendV r.pend.1, at_V b]) σ) : TCalls Try.prog 75 [.str s, at_V a] σ K := by
  refine TCalls.drop ?_
  refine tcalls_walk Try.f75 _ [.cell 4 98, .cell 5 77] Try.func75 rfl rfl rfl mixed (Nat.le_of_ble_eq_true rfl) rfl fun hlen => ?_
  repeat' (first | (simp -dsimp only [↓reduceIte, go_sem]) | (refine arr_intro fun _ => ?_) | (refine later_intro ⟨keeps_nil, ?_⟩) | (refine later_intro ⟨keeps_refl, ?_⟩) | (with_reducible refine keeps_go ?_ ?_; focus (first | (simp [keeps_cons, keeps_none, objs_app, objs_app0]; done) | (simp only [keeps_cons, keeps_none, objs_app0, objs_app, and_true]; first | rfl | exact ⟨rfl, rfl⟩ | exact ⟨rfl, rfl, rfl⟩))) | (with_reducible refine (And.intro (a := keeps _ _ _) ?_ ?_); focus (first | (simp [keeps_cons, keeps_none, objs_app, objs_app0]; done) | (simp only [keeps_cons, keeps_none, objs_app0, objs_app, and_true]; first | rfl | exact ⟨rfl, rfl⟩ | exact ⟨rfl, rfl, rfl⟩))) | (refine both_ways ?_ ?_) | (rw [wrap_i64 (by omega) (by omega)]) | (refine guardV_split (fun h => ?_) (fun h => ?_) <;> (try rw [h]) <;> (try simp at h) <;> (try (exfalso; omega))))
  refine refInt_c hS fun b hS => ?_
  repeat' (first | (simp -dsimp only [↓reduceIte, go_sem]) | (refine arr_intro fun _ => ?_) | (refine later_intro ⟨keeps_nil, ?_⟩) | (refine later_intro ⟨keeps_refl, ?_⟩) | (with_reducible refine keeps_go ?_ ?_; focus (first | (simp [keeps_cons, keeps_none, objs_app, objs_app0]; done) | (simp only [keeps_cons, keeps_none, objs_app0, objs_app, and_true]; first | rfl | exact ⟨rfl, rfl⟩ | exact ⟨rfl, rfl, rfl⟩))) | (with_reducible refine (And.intro (a := keeps _ _ _) ?_ ?_); focus (first | (simp [keeps_cons, keeps_none, objs_app, objs_app0]; done) | (simp only [keeps_cons, keeps_none, objs_app0, objs_app, and_true]; first | rfl | exact ⟨rfl, rfl⟩ | exact ⟨rfl, rfl, rfl⟩))) | (refine both_ways ?_ ?_) | (rw [wrap_i64 (by omega) (by omega)]) | (refine guardV_split (fun h => ?_) (fun h => ?_) <;> (try rw [h]) <;> (try simp at h) <;> (try (exfalso; omega))))
  refine refInt_c hS fun b hS => ?_
  repeat' (first | (simp -dsimp only [↓reduceIte, go_sem]) | (refine arr_intro fun _ => ?_) | (refine later_intro ⟨keeps_nil, ?_⟩) | (refine later_intro ⟨keeps_refl, ?_⟩) | (with_reducible refine keeps_go ?_ ?_; focus (first | (simp [keeps_cons, keeps_none, objs_app, objs_app0]; done) | (simp only [keeps_cons, keeps_none, objs_app0, objs_app, and_true]; first | rfl | exact ⟨rfl, rfl⟩ | exact ⟨rfl, rfl, rfl⟩))) | (with_reducible refine (And.intro (a := keeps _ _ _) ?_ ?_); focus (first | (simp [keeps_cons, keeps_none, objs_app, objs_app0]; done) | (simp only [keeps_cons, keeps_none, objs_app0, objs_app, and_true]; first | rfl | exact ⟨rfl, rfl⟩ | exact ⟨rfl, rfl, rfl⟩))) | (refine both_ways ?_ ?_) | (rw [wrap_i64 (by omega) (by omega)]) | (refine guardV_split (fun h => ?_) (fun h => ?_) <;> (try rw [h]) <;> (try simp at h) <;> (try (exfalso; omega))))
  refine refInt_c hS fun b hS => ?_
  repeat' (first | (simp -dsimp only [↓reduceIte, go_sem]) | (refine arr_intro fun _ => ?_) | (refine later_intro ⟨keeps_nil, ?_⟩) | (refine later_intro ⟨keeps_refl, ?_⟩) | (with_reducible refine keeps_go ?_ ?_; focus (first | (simp [keeps_cons, keeps_none, objs_app, objs_app0]; done) | (simp only [keeps_cons, keeps_none, objs_app0, objs_app, and_true]; first | rfl | exact ⟨rfl, rfl⟩ | exact ⟨rfl, rfl, rfl⟩))) | (with_reducible refine (And.intro (a := keeps _ _ _) ?_ ?_); focus (first | (simp [keeps_cons, keeps_none, objs_app, objs_app0]; done) | (simp only [keeps_cons, keeps_none, objs_app0, objs_app, and_true]; first | rfl | exact ⟨rfl, rfl⟩ | exact ⟨rfl, rfl, rfl⟩))) | (refine both_ways ?_ ?_) | (rw [wrap_i64 (by omega) (by omega)]) | (refine guardV_split (fun h => ?_) (fun h => ?_) <;> (try rw [h]) <;> (try simp at h) <;> (try (exfalso; omega))))
  refine refInt_c hS fun b hS => ?_
  repeat' (first | (simp -dsimp only [↓reduceIte, go_sem]) | (refine arr_intro fun _ => ?_) | (refine later_intro ⟨keeps_nil, ?_⟩) | (refine later_intro ⟨keeps_refl, ?_⟩) | (with_reducible refine keeps_go ?_ ?_; focus (first | (simp [keeps_cons, keeps_none, objs_app, objs_app0]; done) | (simp only [keeps_cons, keeps_none, objs_app0, objs_app, and_true]; first | rfl | exact ⟨rfl, rfl⟩ | exact ⟨rfl, rfl, rfl⟩))) | (with_reducible refine (And.intro (a := keeps _ _ _) ?_ ?_); focus (first | (simp [keeps_cons, keeps_none, objs_app, objs_app0]; done) | (simp only [keeps_cons, keeps_none, objs_app0, objs_app, and_true]; first | rfl | exact ⟨rfl, rfl⟩ | exact ⟨rfl, rfl, rfl⟩))) | (refine both_ways ?_ ?_) | (rw [wrap_i64 (by omega) (by omega)]) | (refine guardV_split (fun h => ?_) (fun h => ?_) <;> (try rw [h]) <;> (try simp at h) <;> (try (exfalso; omega))))
  refine refDigest_c hS fun b hS => ?_
  repeat' (first | (simp -dsimp only [↓reduceIte, go_sem]) | (refine arr_intro fun _ => ?_) | (refine later_intro ⟨keeps_nil, ?_⟩) | (refine later_intro ⟨keeps_refl, ?_⟩) | (with_reducible refine keeps_go ?_ ?_; focus (first | (simp [keeps_cons, keeps_none, objs_app, objs_app0]; done) | (simp only [keeps_cons, keeps_none, objs_app0, objs_app, and_true]; first | rfl | exact ⟨rfl, rfl⟩ | exact ⟨rfl, rfl, rfl⟩))) | (with_reducible refine (And.intro (a := keeps _ _ _) ?_ ?_); focus (first | (simp [keeps_cons, keeps_none, objs_app, objs_app0]; done) | (simp only [keeps_cons, keeps_none, objs_app0, objs_app, and_true]; first | rfl | exact ⟨rfl, rfl⟩ | exact ⟨rfl, rfl, rfl⟩))) | (refine both_ways ?_ ?_) | (rw [wrap_i64 (by omega) (by omega)]) | (refine guardV_split (fun h => ?_) (fun h => ?_) <;> (try rw [h]) <;> (try simp at h) <;> (try (exfalso; omega))))
  refine refDigest_c hS fun b hS => ?_
  repeat' (first | (simp -dsimp only [↓reduceIte, go_sem]) | (refine arr_intro fun _ => ?_) | (refine later_intro ⟨keeps_nil, ?_⟩) | (refine later_intro ⟨keeps_refl, ?_⟩) | (with_reducible refine keeps_go ?_ ?_; focus (first | (simp [keeps_cons, keeps_none, objs_app, objs_app0]; done) | (simp only [keeps_cons, keeps_none, objs_app0, objs_app, and_true]; first | rfl | exact ⟨rfl, rfl⟩ | exact ⟨rfl, rfl, rfl⟩))) | (with_reducible refine (And.intro (a := keeps _ _ _) ?_ ?_); focus (first | (simp [keeps_cons, keeps_none, objs_app, objs_app0]; done) | (simp only [keeps_cons, keeps_none, objs_app0, objs_app, and_true]; first | rfl | exact ⟨rfl, rfl⟩ | exact ⟨rfl, rfl, rfl⟩))) | (refine both_ways ?_ ?_) | (rw [wrap_i64 (by omega) (by omega)]) | (refine guardV_split (fun h => ?_) (fun h => ?_) <;> (try rw [h]) <;> (try simp at h) <;> (try (exfalso; omega))) | (with_reducible refine awp_drawU (id := 7) (.op 0 2 (.op 1 2 (.op 2 2 (.op 3 2 (.op 4 2 (.op 5 2 (.op 6 2 (.op 7 0 (.op 8 1 (.cut (.op 9 1 .nil))))))))))) (by kernel_rfl) ?_))
  refine ⟨Ext.app _ _, ?_, ?_⟩
  · simp [AV.noRef, AV.noRefs, noRef_pend, noRef_at_, subPs, blobPs]
  · simp only [AV.strip, AV.strips, strip_pend, strip_at_]; exact hK _ hS
theorem refSubmit_c {s : List UInt8} {r : Rdr} {a : At} {σ : AST} {K : AV → AST → Prop} (hS : Sim s r a) (hK : ∀ b, Sim s r.sub.2 b → K (.tuple [subV r.sub.1, at_V b]) σ) : TCalls Try.prog 46 [.str s, at_V a] σ K := by
  refine TCalls.drop ?_
  refine tcalls_walk Try.f46 _ [.cell 4 25, .cell 5 77] Try.func46 rfl rfl rfl mixed (Nat.le_of_ble_eq_true rfl) rfl fun hlen => ?_
  repeat' (first | (simp -dsimp only [↓reduceIte, go_sem]) | (refine arr_intro fun _ => ?_) | (refine later_intro ⟨keeps_nil, ?_⟩) | (refine later_intro ⟨keeps_refl, ?_⟩) | (with_reducible refine keeps_go ?_ ?_; focus (first | (simp [keeps_cons, keeps_none, objs_app, objs_app0]; done) | (simp only [keeps_cons, keeps_none, objs_app0, objs_app, and_true]; first | rfl | exact ⟨rfl, rfl⟩ | exact ⟨rfl, rfl, rfl⟩))) | (with_reducible refine (And.intro (a := keeps _ _ _) ?_ ?_); focus (first | (simp [keeps_cons, keeps_none, objs_app, objs_app0]; done) | (simp only [keeps_cons, keeps_none, objs_app0, objs_app, and_true]; first | rfl | exact ⟨rfl, rfl⟩ | exact ⟨rfl, rfl, rfl⟩))) | (refine both_ways ?_ ?_) | (rw [wrap_i64 (by omega) (by omega)]) | (refine guardV_split (fun h => ?_) (fun h => ?_) <;> (try rw [h]) <;> (try simp at h) <;> (try (exfalso; omega))))
  refine refInt_c hS fun b hS => ?_
  repeat' (first | (simp -dsimp only [↓reduceIte, go_sem]) | (refine arr_intro fun _ => ?_) | (refine later_intro ⟨keeps_nil, ?_⟩) | (refine later_intro ⟨keeps_refl, ?_⟩) | (with_reducible refine keeps_go ?_ ?_; focus (first | (simp [keeps_cons, keeps_none, objs_app, objs_app0]; done) | (simp only [keeps_cons, keeps_none, objs_app0, objs_app, and_true]; first | rfl | exact ⟨rfl, rfl⟩ | exact ⟨rfl, rfl, rfl⟩))) | (with_reducible refine (And.intro (a := keeps _ _ _) ?_ ?_); focus (first | (simp [keeps_cons, keeps_none, objs_app, objs_app0]; done) | (simp only [keeps_cons, keeps_none, objs_app0, objs_app, and_true]; first | rfl | exact ⟨rfl, rfl⟩ | exact ⟨rfl, rfl, rfl⟩))) | (refine both_ways ?_ ?_) | (rw [wrap_i64 (by omega) (by omega)]) | (refine guardV_split (fun h => ?_) (fun h => ?_) <;> (try rw [h]) <;> (try simp at h) <;> (try (exfalso; omega))))
  refine refInt_c hS fun b hS => ?_
  repeat' (first | (simp -dsimp only [↓reduceIte, go_sem]) | (refine arr_intro fun _ => ?_) | (refine later_intro ⟨keeps_nil, ?_⟩) | (refine later_intro ⟨keeps_refl, ?_⟩) | (with_reducible refine keeps_go ?_ ?_; focus (first | (simp [keeps_cons, keeps_none, objs_app, objs_app0]; done) | (simp only [keeps_cons, keeps_none, objs_app0, objs_app, and_true]; first | rfl | exact ⟨rfl, rfl⟩ | exact ⟨rfl, rfl, rfl⟩))) | (with_reducible refine (And.intro (a := keeps _ _ _) ?_ ?_); focus (first | (simp [keeps_cons, keeps_none, objs_app, objs_app0]; done) | (simp only [keeps_cons, keeps_none, objs_app0, objs_app, and_true]; first | rfl | exact ⟨rfl, rfl⟩ | exact ⟨rfl, rfl, rfl⟩))) | (refine both_ways ?_ ?_) | (rw [wrap_i64 (by omega) (by omega)]) | (refine guardV_split (fun h => ?_) (fun h => ?_) <;> (try rw [h]) <;> (try simp at h) <;> (try (exfalso; omega))))
  refine refInt_c hS fun b hS => ?_
  repeat' (first | (simp -dsimp only [↓reduceIte, go_sem]) | (refine arr_intro fun _ => ?_) | (refine later_intro ⟨keeps_nil, ?_⟩) | (refine later_intro ⟨keeps_refl, ?_⟩) | (with_reducible refine keeps_go ?_ ?_; focus (first | (simp [keeps_cons, keeps_none, objs_app, objs_app0]; done) | (simp only [keeps_cons, keeps_none, objs_app0, objs_app, and_true]; first | rfl | exact ⟨rfl, rfl⟩ | exact ⟨rfl, rfl, rfl⟩))) | (with_reducible refine (And.intro (a := keeps _ _ _) ?_ ?_); focus (first | (simp [keeps_cons, keeps_none, objs_app, objs_app0]; done) | (simp only [keeps_cons, keeps_none, objs_app0, objs_app, and_true]; first | rfl | exact ⟨rfl, rfl⟩ | exact ⟨rfl, rfl, rfl⟩))) | (refine both_ways ?_ ?_) | (rw [wrap_i64 (by omega) (by omega)]) | (refine guardV_split (fun h => ?_) (fun h => ?_) <;> (try rw [h]) <;> (try simp at h) <;> (try (exfalso; omega))))
  refine refStr_c hS fun b hS => ?_
  repeat' (first | (simp -dsimp only [↓reduceIte, go_sem]) | (refine arr_intro fun _ => ?_) | (refine later_intro ⟨keeps_nil, ?_⟩) | (refine later_intro ⟨keeps_refl, ?_⟩) | (with_reducible refine keeps_go ?_ ?_; focus (first | (simp [keeps_cons, keeps_none, objs_app, objs_app0]; done) | (simp only [keeps_cons, keeps_none, objs_app0, objs_app, and_true]; first | rfl | exact ⟨rfl, rfl⟩ | exact ⟨rfl, rfl, rfl⟩))) | (with_reducible refine (And.intro (a := keeps _ _ _) ?_ ?_); focus (first | (simp [keeps_cons, keeps_none, objs_app, objs_app0]; done) | (simp only [keeps_cons, keeps_none, objs_app0, objs_app, and_true]; first | rfl | exact ⟨rfl, rfl⟩ | exact ⟨rfl, rfl, rfl⟩))) | (refine both_ways ?_ ?_) | (rw [wrap_i64 (by omega) (by omega)]) | (refine guardV_split (fun h => ?_) (fun h => ?_) <;> (try rw [h]) <;> (try simp at h) <;> (try (exfalso; omega))))
  refine refDigest_c hS fun b hS => ?_
  repeat' (first | (simp -dsimp only [↓reduceIte, go_sem]) | (refine arr_intro fun _ => ?_) | (refine later_intro ⟨keeps_nil, ?_⟩) | (refine later_intro ⟨keeps_refl, ?_⟩) | (with_reducible refine keeps_go ?_ ?_; focus (first | (simp [keeps_cons, keeps_none, objs_app, objs_app0]; done) | (simp only [keeps_cons, keeps_none, objs_app0, objs_app, and_true]; first | rfl | exact ⟨rfl, rfl⟩ | exact ⟨rfl, rfl, rfl⟩))) | (with_reducible refine (And.intro (a := keeps _ _ _) ?_ ?_); focus (first | (simp [keeps_cons, keeps_none, objs_app, objs_app0]; done) | (simp only [keeps_cons, keeps_none, objs_app0, objs_app, and_true]; first | rfl | exact ⟨rfl, rfl⟩ | exact ⟨rfl, rfl, rfl⟩))) | (refine both_ways ?_ ?_) | (rw [wrap_i64 (by omega) (by omega)]) | (refine guardV_split (fun h => ?_) (fun h => ?_) <;> (try rw [h]) <;> (try simp at h) <;> (try (exfalso; omega))))
  refine refDigest_c hS fun b hS => ?_
  repeat' (first | (simp -dsimp only [↓reduceIte, go_sem]) | (refine arr_intro fun _ => ?_) | (refine later_intro ⟨keeps_nil, ?_⟩) | (refine later_intro ⟨keeps_refl, ?_⟩) | (with_reducible refine keeps_go ?_ ?_; focus (first | (simp [keeps_cons, keeps_none, objs_app, objs_app0]; done) | (simp only [keeps_cons, keeps_none, objs_app0, objs_app, and_true]; first | rfl | exact ⟨rfl, rfl⟩ | exact ⟨rfl, rfl, rfl⟩))) | (with_reducible refine (And.intro (a := keeps _ _ _) ?_ ?_); focus (first | (simp [keeps_cons, keeps_none, objs_app, objs_app0]; done) | (simp only [keeps_cons, keeps_none, objs_app0, objs_app, and_true]; first | rfl | exact ⟨rfl, rfl⟩ | exact ⟨rfl, rfl, rfl⟩))) | (refine both_ways ?_ ?_) | (rw [wrap_i64 (by omega) (by omega)]) | (refine guardV_split (fun h => ?_) (fun h => ?_) <;> (try rw [h]) <;> (try simp at h) <;> (try (exfalso; omega))) | (with_reducible refine awp_drawU (id := 7) (.op 0 2 (.op 1 2 (.op 2 2 (.op 3 2 (.op 4 2 (.op 5 2 (.op 6 2 (.op 7 0 (.op 8 1 (.cut (.op 9 1 .nil))))))))))) (by kernel_rfl) ?_))
  refine ⟨Ext.app _ _, ?_, ?_⟩
  · simp [AV.noRef, AV.noRefs, noRef_pend, noRef_at_, subPs, blobPs]
  · simp only [AV.strip, AV.strips, strip_sub, strip_at_]; exact hK _ hS
theorem refBlob_c {s : List UInt8} {r : Rdr} {a : At} {σ : AST} {K : AV → AST → Prop} (hS : Sim s r a) (hK : ∀ b, Sim s r.blob.2 b → K (.tuple [blobV r.blob.1, at_V b]) σ) : TCalls Try.prog 48 [.str s, at_V a] σ K := by
  refine TCalls.drop ?_
  refine tcalls_walk Try.f48 _ [.cell 4 30, .cell 5 77] Try.func48 rfl rfl rfl mixed (Nat.le_of_ble_eq_true rfl) rfl fun hlen => ?_
  repeat' (first | (simp -dsimp only [↓reduceIte, go_sem]) | (refine arr_intro fun _ => ?_) | (refine later_intro ⟨keeps_nil, ?_⟩) | (refine later_intro ⟨keeps_refl, ?_⟩) | (with_reducible refine keeps_go ?_ ?_; focus (first | (simp [keeps_cons, keeps_none, objs_app, objs_app0]; done) | (simp only [keeps_cons, keeps_none, objs_app0, objs_app, and_true]; first | rfl | exact ⟨rfl, rfl⟩ | exact ⟨rfl, rfl, rfl⟩))) | (with_reducible refine (And.intro (a := keeps _ _ _) ?_ ?_); focus (first | (simp [keeps_cons, keeps_none, objs_app, objs_app0]; done) | (simp only [keeps_cons, keeps_none, objs_app0, objs_app, and_true]; first | rfl | exact ⟨rfl, rfl⟩ | exact ⟨rfl, rfl, rfl⟩))) | (refine both_ways ?_ ?_) | (rw [wrap_i64 (by omega) (by omega)]) | (refine guardV_split (fun h => ?_) (fun h => ?_) <;> (try rw [h]) <;> (try simp at h) <;> (try (exfalso; omega))))
  refine refInt_c hS fun b hS => ?_
  repeat' (first | (simp -dsimp only [↓reduceIte, go_sem]) | (refine arr_intro fun _ => ?_) | (refine later_intro ⟨keeps_nil, ?_⟩) | (refine later_intro ⟨keeps_refl, ?_⟩) | (with_reducible refine keeps_go ?_ ?_; focus (first | (simp [keeps_cons, keeps_none, objs_app, objs_app0]; done) | (simp only [keeps_cons, keeps_none, objs_app0, objs_app, and_true]; first | rfl | exact ⟨rfl, rfl⟩ | exact ⟨rfl, rfl, rfl⟩))) | (with_reducible refine (And.intro (a := keeps _ _ _) ?_ ?_); focus (first | (simp [keeps_cons, keeps_none, objs_app, objs_app0]; done) | (simp only [keeps_cons, keeps_none, objs_app0, objs_app, and_true]; first | rfl | exact ⟨rfl, rfl⟩ | exact ⟨rfl, rfl, rfl⟩))) | (refine both_ways ?_ ?_) | (rw [wrap_i64 (by omega) (by omega)]) | (refine guardV_split (fun h => ?_) (fun h => ?_) <;> (try rw [h]) <;> (try simp at h) <;> (try (exfalso; omega))))
  refine refInt_c hS fun b hS => ?_
  repeat' (first | (simp -dsimp only [↓reduceIte, go_sem]) | (refine arr_intro fun _ => ?_) | (refine later_intro ⟨keeps_nil, ?_⟩) | (refine later_intro ⟨keeps_refl, ?_⟩) | (with_reducible refine keeps_go ?_ ?_; focus (first | (simp [keeps_cons, keeps_none, objs_app, objs_app0]; done) | (simp only [keeps_cons, keeps_none, objs_app0, objs_app, and_true]; first | rfl | exact ⟨rfl, rfl⟩ | exact ⟨rfl, rfl, rfl⟩))) | (with_reducible refine (And.intro (a := keeps _ _ _) ?_ ?_); focus (first | (simp [keeps_cons, keeps_none, objs_app, objs_app0]; done) | (simp only [keeps_cons, keeps_none, objs_app0, objs_app, and_true]; first | rfl | exact ⟨rfl, rfl⟩ | exact ⟨rfl, rfl, rfl⟩))) | (refine both_ways ?_ ?_) | (rw [wrap_i64 (by omega) (by omega)]) | (refine guardV_split (fun h => ?_) (fun h => ?_) <;> (try rw [h]) <;> (try simp at h) <;> (try (exfalso; omega))))
  refine refStr_c hS fun b hS => ?_
  repeat' (first | (simp -dsimp only [↓reduceIte, go_sem]) | (refine arr_intro fun _ => ?_) | (refine later_intro ⟨keeps_nil, ?_⟩) | (refine later_intro ⟨keeps_refl, ?_⟩) | (with_reducible refine keeps_go ?_ ?_; focus (first | (simp [keeps_cons, keeps_none, objs_app, objs_app0]; done) | (simp only [keeps_cons, keeps_none, objs_app0, objs_app, and_true]; first | rfl | exact ⟨rfl, rfl⟩ | exact ⟨rfl, rfl, rfl⟩))) | (with_reducible refine (And.intro (a := keeps _ _ _) ?_ ?_); focus (first | (simp [keeps_cons, keeps_none, objs_app, objs_app0]; done) | (simp only [keeps_cons, keeps_none, objs_app0, objs_app, and_true]; first | rfl | exact ⟨rfl, rfl⟩ | exact ⟨rfl, rfl, rfl⟩))) | (refine both_ways ?_ ?_) | (rw [wrap_i64 (by omega) (by omega)]) | (refine guardV_split (fun h => ?_) (fun h => ?_) <;> (try rw [h]) <;> (try simp at h) <;> (try (exfalso; omega))))
  refine refDigest_c hS fun b hS => ?_
  repeat' (first | (simp -dsimp only [↓reduceIte, go_sem]) | (refine arr_intro fun _ => ?_) | (refine later_intro ⟨keeps_nil, ?_⟩) | (refine later_intro ⟨keeps_refl, ?_⟩) | (with_reducible refine keeps_go ?_ ?_; focus (first | (simp [keeps_cons, keeps_none, objs_app, objs_app0]; done) | (simp only [keeps_cons, keeps_none, objs_app0, objs_app, and_true]; first | rfl | exact ⟨rfl, rfl⟩ | exact ⟨rfl, rfl, rfl⟩))) | (with_reducible refine (And.intro (a := keeps _ _ _) ?_ ?_); focus (first | (simp [keeps_cons, keeps_none, objs_app, objs_app0]; done) | (simp only [keeps_cons, keeps_none, objs_app0, objs_app, and_true]; first | rfl | exact ⟨rfl, rfl⟩ | exact ⟨rfl, rfl, rfl⟩))) | (refine both_ways ?_ ?_) | (rw [wrap_i64 (by omega) (by omega)]) | (refine guardV_split (fun h => ?_) (fun h => ?_) <;> (try rw [h]) <;> (try simp at h) <;> (try (exfalso; omega))) | (with_reducible refine awp_drawU (id := 5) (.op 0 2 (.op 1 2 (.op 2 2 (.op 3 2 (.op 4 2 (.op 5 0 (.op 6 1 (.cut (.op 7 1 .nil))))))))) (by kernel_rfl) ?_))
  refine ⟨Ext.app _ _, ?_, ?_⟩
  · simp [AV.noRef, AV.noRefs, noRef_pend, noRef_at_, subPs, blobPs]
  · simp only [AV.strip, AV.strips, strip_blob, strip_at_]; exact hK _ hS
end Go.Aff.L10

