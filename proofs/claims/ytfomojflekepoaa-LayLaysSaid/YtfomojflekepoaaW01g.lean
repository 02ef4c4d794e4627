/- Layer 1, walked: lists of texts that are laid; begins. -/
import Derived.Test.YtfomojflekepoaaW01e
namespace Go.Aff.L01
open Go.Proofs Go.Aff
set_option linter.unusedVariables false
set_option linter.unusedSimpArgs false
attribute [local go_sem] Try.underlying3 Try.underlying4 Try.underlying5 Try.underlying9 Try.underlying51 Try.underlying53 Try.underlying27 Try.underlying25 Try.underlying26 fits3 fits9

theorem textS_len {s : List UInt8} (h : ¬ 16384 < s.length) : (textS s).length ≤ 16405 := by
  have := dg_len20 (n := s.length) (by omega)
  simp [textS]; omega

/-- What texts come to. -/
def textsR (l : List (List UInt8)) : AV :=
  if 512 < l.length ∨ ∃ s ∈ l, 16384 < s.length then .tuple [.str [], .int .i64 4] else .tuple [.str (laidAll textS l), .int .i64 0]

theorem part_len' {α : Type} {f : α → List UInt8} {l : List α} {m i : Nat} (h : ∀ x ∈ l.take i, (f x).length ≤ m) (hi : i ≤ l.length) : (part f l i).length ≤ 1 + l.length * m := by
  have := flat_len (f := f) (m := m) (l := l.take i) h
  have h2 : (l.take i).length * m ≤ l.length * m := Nat.mul_le_mul_right m (by simp; omega)
  simp only [part, List.length_cons]; omega

theorem listText_c {l : List (List UInt8)} {tk0 : Tk} {σ : AST} {K : AV → AST → Prop} (hK : K (textsR l) σ) : TCalls Try.prog 33 [.slice tk0 (l.map AV.str), .fn (.func 12) [] []] σ K := by
  refine TCalls.drop ?_
  refine tcalls_walk Try.f33 _ [.tmp 4, .tmp 5] Try.func33 rfl rfl rfl mixed (Nat.le_of_ble_eq_true rfl) rfl fun hlen => ?_
  have hs : l.length ≤ 9223372036854775807 := by
    have := hlen (.slice tk0 (l.map AV.str)) (by simp)
    simp only [lenOk, List.length_map, maxL] at this; exact this
  have bad : (512 < l.length ∨ ∃ s ∈ l, 16384 < s.length) → K (.tuple [.str [], .int .i64 4]) σ := fun h => by
    rw [textsR, if_pos h] at hK; exact hK
  refine awp_seq_k fun KA hKA => ?_
  simp -dsimp only [go_sem]
  refine hKA _ _ ?_
  simp -dsimp only [go_sem]
  refine arr_intro fun _ => ?_
  simp only [List.length_map]
  simp -dsimp only [go_sem]
  refine boolW_split (fun hb => ?_) (fun hb => ?_)
  · have hb : 512 < l.length := by simp at hb; omega
    simp -dsimp only [go_sem]
    exact ⟨Ext.refl _, rfl, bad (.inl hb)⟩
  · have hb : ¬ 512 < l.length := by simp at hb; omega
    simp -dsimp only [go_sem]
    refine build_byte E51 agg5 (by decide) (by decide) ?_
    simp -dsimp only [go_sem]
    refine arr_intro fun _ => ?_
    simp only [List.length_map]
    simp -dsimp only [go_sem]
    refine awp_rounds (fun (i : Nat) τ s => i ≤ l.length ∧ Ext σ s ∧ τ 1 = .fn (.func 12) [] [] ∧ τ 15 = .slice tk0 (l.map AV.str) ∧ τ 16 = .int .i64 l.length ∧ τ 17 = .int .i64 i ∧ (∀ x ∈ l.take i, ¬ 16384 < x.length) ∧
      ∃ tk, tkNew σ tk ∧ canApp s tk (part textS l i).length 1 ∧ τ 6 = .slice tk (u8s (part textS l i))) (fun i => l.length - i) 0 ?_ ?_
    · refine ⟨by omega, Ext.refl _, ?_, ?_, ?_, ?_, by simp, .full, .inl rfl, trivial, ?_⟩ <;> simp only [go_sem] <;> first | rfl | (rw [part_zero]; rfl)
    · rintro i τ s ⟨hi, hx, t1, t15, t16, t17, hsm, tk, htk, hcan, t6⟩
      have hcat := part_len' (f := textS) (l := l) (m := 16405) (i := i) (fun x hx => textS_len (hsm x hx)) hi
      simp -dsimp only [go_sem, t1, t6, t15, t16, t17]
      refine boolW_split (fun h1 => ?_) (fun h1 => ?_)
      · have h1 : i < l.length := by simp at h1; omega
        obtain ⟨x, hn⟩ := get_lt h1
        simp -dsimp only [go_sem, t1, t6, t15, t16, t17]
        refine nth_get hn ?_
        simp -dsimp only [go_sem, t1, t6, t15, t16, t17]
        refine text_c ?_
        split
        · rename_i hbig
          simp -dsimp only [go_sem, t1, t6, t15, t16, t17]
          exact ⟨hx, rfl, bad (.inr ⟨x, List.mem_iff_getElem?.2 ⟨i, hn⟩, hbig⟩)⟩
        · rename_i hbig
          simp -dsimp only [go_sem, t1, t6, t15, t16, t17]
          have hnl := textS_len hbig
          refine append_text E51 Try.underlying9 hcan (by omega) (by simp only [maxL]; omega) ?_
          simp -dsimp only [go_sem, t1, t6, t15, t16, t17]
          rw [wrap_i64 (by omega) (by omega)]
          refine later_intro ⟨i + 1, by omega, ?_⟩
          rw [part_succ hn, List.length_append]
          refine ⟨by omega, hx.grow htk, ?_, ?_, ?_, ?_, ?_, growT s tk, htk.grow hx, canApp_grow hcan, ?_⟩ <;> try (simp only [go_sem, t1, t15, t16, t17] <;> rfl)
          intro y hy
          rw [List.take_add_one, hn] at hy
          rcases List.mem_append.1 hy with hy | hy
          · exact hsm y hy
          · simp at hy; subst hy; exact hbig
      · have h1 : i = l.length := by simp at h1; omega
        subst h1
        rw [List.take_length] at hsm
        rw [textsR, if_neg (by rintro (h | ⟨x, hx, h⟩); exact hb h; exact hsm x hx h)] at hK
        simp -dsimp only [go_sem, t1, t6, t15, t16, t17]
        refine build_byte E51 agg5 (by decide) (by decide) ?_
        simp -dsimp only [go_sem, t1, t6, t15, t16, t17]
        refine append_bytes E51 S51 hcan (by simp; omega) (by simp [maxL]; omega) ?_
        simp -dsimp only [go_sem, t1, t6, t15, t16, t17]
        exact ⟨hx.grow htk, rfl, hK⟩

theorem texts_c {l : List (List UInt8)} {tk0 : Tk} {σ : AST} {K : AV → AST → Prop} (hK : K (textsR l) σ) : TCalls Try.prog 16 [.slice tk0 (l.map AV.str)] σ K := by
  refine tcalls_walk Try.f16 _ [.tmp 2, .tmp 3] Try.func16 rfl rfl rfl mixed (Nat.le_of_ble_eq_true rfl) rfl fun hlen => ?_
  simp -dsimp only [go_sem]
  refine listText_c ?_
  unfold textsR at hK ⊢
  split
  · rename_i h
    rw [if_pos h] at hK
    simp -dsimp only [go_sem]
    exact hK
  · rename_i h
    rw [if_neg h] at hK
    simp -dsimp only [go_sem]
    exact hK

theorem begins_c {a b : List UInt8} {σ : AST} {K : AV → AST → Prop} (hK : K (.bool (decide (a <+: b))) σ) : TCalls Try.prog 18 [.str a, .str b] σ K := by
  refine tcalls_walk Try.f18 _ [.tmp 4] Try.func18 rfl rfl rfl mixed (Nat.le_of_ble_eq_true rfl) rfl fun hlen => ?_
  simp -dsimp only [go_sem]
  refine arr_intro fun _ => ?_
  simp -dsimp only [go_sem]
  refine arr_intro fun _ => ?_
  simp -dsimp only [go_sem]
  refine guardV_split (fun h1 => ?_) (fun h1 => ?_) <;> (try rw [h1])
  · have h1 : a.length ≤ b.length := by simp at h1; omega
    simp -dsimp only [go_sem]
    refine arr_intro fun _ => ?_
    simp -dsimp only [go_sem]
    refine side_later (by omega) ?_
    simp -dsimp only [go_sem]
    refine side_later (by omega) ?_
    simp -dsimp only [go_sem]
    rw [show (a == b.take a.length) = decide (a <+: b) by rw [Bool.eq_iff_iff]; simp; rw [List.prefix_iff_eq_take]]
    exact hK
  · have h1 : ¬ a.length ≤ b.length := by simp at h1; omega
    simp -dsimp only [go_sem]
    rw [show decide (a <+: b) = false by simp; intro h; exact h1 h.length_le] at hK
    exact hK
end Go.Aff.L01
