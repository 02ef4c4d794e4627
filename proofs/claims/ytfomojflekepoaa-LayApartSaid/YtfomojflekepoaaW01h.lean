/- Layer 1, walked: LayApart. -/
import Derived.Test.YtfomojflekepoaaW01f
import Derived.Test.YtfomojflekepoaaW01g
import Derived.Test.YtfomojflekepoaaAffY
import Derived.Test.YtfomojflekepoaaL01c
namespace Go.Aff.L01
open Go.Proofs Go.Aff
set_option linter.unusedVariables false
set_option linter.unusedSimpArgs false
theorem p34_0 {ps : List AV} {x : AV} : partIs Try.prog 34 ps 0 x = (0 = AV.sizes (ps.take 0) ∧ fits Try.prog 3 x) := partIs_of (by kernel_rfl)
theorem p34_1 {ps : List AV} {x : AV} : partIs Try.prog 34 ps 1 x = (1 = AV.sizes (ps.take 1) ∧ fits Try.prog 3 x) := partIs_of (by kernel_rfl)
theorem p34_2 {ps : List AV} {x : AV} : partIs Try.prog 34 ps 2 x = (2 = AV.sizes (ps.take 2) ∧ fits Try.prog 9 x) := partIs_of (by kernel_rfl)
theorem p34_3 {ps : List AV} {x : AV} : partIs Try.prog 34 ps 3 x = (3 = AV.sizes (ps.take 3) ∧ fits Try.prog 9 x) := partIs_of (by kernel_rfl)
attribute [local go_sem] Try.underlying3 Try.underlying4 Try.underlying5 Try.underlying9 Try.underlying51 Try.underlying53 Try.underlying27 Try.underlying25 Try.underlying26 Try.underlying34 fits3 fits9 p34_0 p34_1 p34_2 p34_3

theorem textS_apart {s t : List UInt8} (hst : s ≠ t) : ¬ textS s <+: textS t := by
  intro h
  unfold textS at h
  rw [List.append_assoc, List.append_assoc, List.singleton_append, List.singleton_append] at h
  obtain ⟨h1, h2⟩ := stop_prefix (c := 58) (not_in_dg (by decide)) (not_in_dg (by decide)) h
  exact hst (h2.eq_of_length (dg_inj h1))

theorem list1_apart {s t : List UInt8} : ¬ laidAll textS [s] <+: laidAll textS [s, t] := by
  intro h
  simp only [laidAll, part, List.length_cons, List.length_nil, List.take, List.flatMap_cons, List.flatMap_nil, List.append_nil, List.cons_append, List.cons_prefix_cons, true_and, List.append_assoc, List.prefix_append_right_inj] at h
  obtain ⟨b, r, hb⟩ := List.exists_cons_of_ne_nil (dg_ne (n := t.length))
  unfold textS at h
  rw [hb] at h
  simp only [List.cons_append, List.cons_prefix_cons] at h
  have := dg_isD t.length b (by rw [hb]; simp)
  rw [← h.1] at this
  revert this; decide

theorem list2_apart {s t : List UInt8} : ¬ laidAll textS [s, t] <+: laidAll textS [s] := by
  intro h
  have := h.length_le
  simp [laidAll, part, textS] at this
  omega

theorem textsR_two {s t : List UInt8} (hs : ¬ 16384 < s.length) (ht : ¬ 16384 < t.length) : textsR [s, t] = .tuple [.str (laidAll textS [s, t]), .int .i64 0] := by
  rw [textsR, if_neg]; rintro (h | ⟨x, hx, h⟩)
  · simp at h
  · simp at hx; rcases hx with rfl | rfl <;> omega
theorem textsR_one {s : List UInt8} (hs : ¬ 16384 < s.length) : textsR [s] = .tuple [.str (laidAll textS [s]), .int .i64 0] := by
  rw [textsR, if_neg]; rintro (h | ⟨x, hx, h⟩)
  · simp at h
  · simp at hx; subst hx; omega

theorem layApart_c {a b : Int} {s t : List UInt8} (ha : -9223372036854775808 ≤ a ∧ a ≤ 9223372036854775807) (hb : -9223372036854775808 ≤ b ∧ b ≤ 9223372036854775807) {σ : AST} {K : AV → AST → Prop} (hK : K (.bool true) σ) :
    TCalls Try.prog 5 [.agg [.int .i64 a, .int .i64 b, .str s, .str t]] σ K := by
  refine TCalls.drop ?_
  refine tcalls_walk Try.f5 _ [.tmp 2] Try.func5 rfl rfl rfl mixed (Nat.le_of_ble_eq_true rfl) rfl fun hlen => ?_
  have fin : ∀ s', Ext σ s' → Ext σ s' ∧ (AV.bool true).noRef = true ∧ K (AV.bool true).strip σ := fun s' h => ⟨h, rfl, hK⟩
  simp -dsimp only [↓reduceIte, go_sem]
  refine awp_drawS [0, 1, 2, 3, 4, 5, 6, 7, 8, 9, 10, 11] (by kernel_rfl) ?_
  simp -dsimp only [↓reduceIte, go_sem]
  refine number_c ha.1 ha.2 ?_
  simp -dsimp only [↓reduceIte, go_sem]
  refine number_c hb.1 hb.2 ?_
  simp -dsimp only [↓reduceIte, go_sem]
  have d1 : a ≠ b → decide (numS a <+: numS b) = false := fun h => by simpa using numS_apart h
  have d2 : a ≠ b → decide (numS b <+: numS a) = false := fun h => by simpa using numS_apart (Ne.symm h)
  refine guardV_split (fun h1 => ?_) (fun h1 => ?_) <;> (try rw [h1])
  case' refine_1 =>
    have h1 : a ≠ b := by simpa using h1
    simp -dsimp only [↓reduceIte, go_sem]
    refine begins_c ?_
    rw [d1 h1]
    simp -dsimp only [↓reduceIte, go_sem]
    refine begins_c ?_
    rw [d2 h1]
    simp -dsimp only [↓reduceIte, go_sem]
  case' refine_2 =>
    have h1 : a = b := by simpa using h1
    simp -dsimp only [↓reduceIte, go_sem]
  all_goals
    refine text_c ?_
    split
    · rename_i hs
      simp -dsimp only [↓reduceIte, go_sem]
      refine text_c ?_
      split
      · simp -dsimp only [↓reduceIte, go_sem]
        refine awake_c ?_
        simp -dsimp only [↓reduceIte, go_sem]
        exact fin _ (Ext.push _ _)
      · simp -dsimp only [↓reduceIte, go_sem]
        refine awake_c ?_
        simp -dsimp only [↓reduceIte, go_sem]
        exact fin _ (Ext.push _ _)
    · rename_i hs
      simp -dsimp only [↓reduceIte, go_sem]
      refine text_c ?_
      split
      · simp -dsimp only [↓reduceIte, go_sem]
        refine awake_c ?_
        simp -dsimp only [↓reduceIte, go_sem]
        exact fin _ (Ext.push _ _)
      · rename_i ht
        simp -dsimp only [↓reduceIte, go_sem]
        refine boolW_split (fun hst => ?_) (fun hst => ?_)
        · simp -dsimp only [↓reduceIte, go_sem]
          refine awake_c ?_
          simp -dsimp only [↓reduceIte, go_sem]
          exact fin _ (Ext.push _ _)
        · have hst : s ≠ t := by simpa using hst
          have e1 : decide (textS s <+: textS t) = false := by simpa using textS_apart hst
          have e2 : decide (textS t <+: textS s) = false := by simpa using textS_apart (Ne.symm hst)
          have e3 : decide (laidAll textS [s] <+: laidAll textS [s, t]) = false := by simpa using list1_apart
          have e4 : decide (laidAll textS [s, t] <+: laidAll textS [s]) = false := by simpa using list2_apart
          simp -dsimp only [↓reduceIte, go_sem]
          refine build_slice E26 rfl (by decide) ?_ ?_
          · intro v hv
            simp at hv
            rcases hv with rfl | rfl <;> exact ⟨by simp only [go_sem], rfl⟩
          simp -dsimp only [↓reduceIte, go_sem]
          refine texts_c (l := [s, t]) ?_
          rw [textsR_two hs ht]
          simp -dsimp only [↓reduceIte, go_sem]
          refine build_slice E26 rfl (by decide) ?_ ?_
          · intro v hv
            simp at hv
            subst hv; exact ⟨by simp only [go_sem], rfl⟩
          simp -dsimp only [↓reduceIte, go_sem]
          refine texts_c (l := [s]) ?_
          rw [textsR_one hs]
          simp -dsimp only [↓reduceIte, go_sem]
          refine awake_c ?_
          simp -dsimp only [↓reduceIte, go_sem]
          refine begins_c ?_
          rw [e1]
          simp -dsimp only [↓reduceIte, go_sem]
          refine begins_c ?_
          rw [e2]
          simp -dsimp only [↓reduceIte, go_sem]
          refine begins_c ?_
          rw [e3]
          simp -dsimp only [↓reduceIte, go_sem]
          refine begins_c ?_
          rw [e4]
          simp -dsimp only [↓reduceIte, go_sem]
          exact fin _ (Ext.push _ _)
end Go.Aff.L01
