/- Layer 1, walked: lists that are laid. -/
import Derived.Test.YtfomojflekepoaaW01b
namespace Go.Aff.L01
open Go.Proofs Go.Aff
set_option linter.unusedVariables false
set_option linter.unusedSimpArgs false
theorem agg9 : aggT Try.prog 9 = some false := by kernel_rfl
theorem cells9 : Try.prog.cellsOf 9 = 1 := by kernel_rfl
theorem fits3 {v : AV} : fits Try.prog 3 v = (v.isAgg = false ∧ v.size = 1) := fits_leaf agg3 cells3
theorem fits9 {v : AV} : fits Try.prog 9 v = (v.isAgg = false ∧ v.size = 1) := fits_leaf agg9 cells9
attribute [local go_sem] Try.underlying3 Try.underlying4 Try.underlying5 Try.underlying9 Try.underlying51 Try.underlying53 Try.underlying27 Try.underlying25 Try.underlying26 fits3 fits9

theorem numbers1_c {n : Int} (h0 : -9223372036854775808 ≤ n) (h1 : n ≤ 9223372036854775807) {σ : AST} {K : AV → AST → Prop} (hK : K (.tuple [.str (numS n), .int .i64 0]) σ) : TCalls Try.prog 32 [.int .i64 n] σ K := by
  refine tcalls_walk Try.f32 _ [.tmp 2, .tmp 3] Try.func32 rfl rfl rfl mixed (Nat.le_of_ble_eq_true rfl) rfl fun hlen => ?_
  simp -dsimp only [go_sem]
  refine number_c h0 h1 ?_
  simp -dsimp only [go_sem]
  exact hK

theorem flat_len {α : Type} {f : α → List UInt8} {m : Nat} : ∀ {l : List α}, (∀ x ∈ l, (f x).length ≤ m) → (l.flatMap f).length ≤ l.length * m
  | [], h => by simp
  | x :: r, h => by
    have := flat_len (f := f) (m := m) (l := r) (fun y hy => h y (by simp [hy]))
    have h1 := h x (by simp)
    simp only [List.flatMap_cons, List.length_append, List.length_cons, Nat.add_mul]
    omega
theorem flat_take {α : Type} {f : α → List UInt8} {l : List α} {i : Nat} {x : α} (h : l[i]? = some x) : (l.take (i + 1)).flatMap f = (l.take i).flatMap f ++ f x := by
  rw [List.take_add_one, h]; simp

/-- What is laid when i items are. -/
def part {α : Type} (f : α → List UInt8) (l : List α) (i : Nat) : List UInt8 := 40 :: (l.take i).flatMap f
theorem part_zero {α : Type} {f : α → List UInt8} {l : List α} : part f l 0 = [40] := by simp [part]
theorem part_succ {α : Type} {f : α → List UInt8} {l : List α} {i : Nat} {x : α} (h : l[i]? = some x) : part f l (i + 1) = part f l i ++ f x := by simp [part, flat_take h]
theorem part_all {α : Type} {f : α → List UInt8} {l : List α} : part f l l.length = 40 :: l.flatMap f := by simp [part]
theorem part_len {α : Type} {f : α → List UInt8} {l : List α} {m i : Nat} (h : ∀ x ∈ l, (f x).length ≤ m) (hi : i ≤ l.length) : (part f l i).length ≤ 1 + l.length * m := by
  have := flat_len (f := f) (m := m) (l := l.take i) (fun x hx => h x (List.mem_of_mem_take hx))
  have h2 : (l.take i).length * m ≤ l.length * m := Nat.mul_le_mul_right m (by simp; omega)
  simp only [part, List.length_cons]; omega
def laidAll {α : Type} (f : α → List UInt8) (l : List α) : List UInt8 := part f l l.length ++ [41]

theorem listInt_c {l : List Int} (hl : ∀ n ∈ l, -9223372036854775808 ≤ n ∧ n ≤ 9223372036854775807) {tk0 : Tk} {σ : AST} {K : AV → AST → Prop}
    (hK : K (if 512 < l.length then .tuple [.str [], .int .i64 4] else .tuple [.str (laidAll numS l), .int .i64 0]) σ) : TCalls Try.prog 31 [.slice tk0 (l.map (AV.int .i64)), .fn (.func 32) [] []] σ K := by
  refine TCalls.drop ?_
  refine tcalls_walk Try.f31 _ [.tmp 4, .tmp 5] Try.func31 rfl rfl rfl mixed (Nat.le_of_ble_eq_true rfl) rfl fun hlen => ?_
  have hs : l.length ≤ 9223372036854775807 := by
    have := hlen (.slice tk0 (l.map (AV.int .i64))) (by simp)
    simp only [lenOk, List.length_map, maxL] at this; exact this
  refine awp_seq_k fun KA hKA => ?_
  simp -dsimp only [go_sem]
  refine hKA _ _ ?_
  simp -dsimp only [go_sem]
  refine arr_intro fun _ => ?_
  simp only [List.length_map]
  simp -dsimp only [go_sem]
  refine boolW_split (fun hb => ?_) (fun hb => ?_)
  · have hb : 512 < l.length := by simp at hb; omega
    rw [if_pos hb] at hK
    simp -dsimp only [go_sem]
    exact ⟨Ext.refl _, rfl, hK⟩
  · have hb : ¬ 512 < l.length := by simp at hb; omega
    rw [if_neg hb] at hK
    simp -dsimp only [go_sem]
    refine build_byte E51 agg5 (by decide) (by decide) ?_
    simp -dsimp only [go_sem]
    refine arr_intro fun _ => ?_
    simp only [List.length_map]
    simp -dsimp only [go_sem]
    refine awp_rounds (fun (i : Nat) τ s => i ≤ l.length ∧ Ext σ s ∧ τ 1 = .fn (.func 32) [] [] ∧ τ 15 = .slice tk0 (l.map (AV.int .i64)) ∧ τ 16 = .int .i64 l.length ∧ τ 17 = .int .i64 i ∧
      ∃ tk, tkNew σ tk ∧ canApp s tk (part numS l i).length 1 ∧ τ 6 = .slice tk (u8s (part numS l i))) (fun i => l.length - i) 0 ?_ ?_
    · refine ⟨by omega, Ext.refl _, ?_, ?_, ?_, ?_, .full, .inl rfl, trivial, ?_⟩ <;> simp only [go_sem] <;> first | rfl | (rw [part_zero]; rfl)
    · rintro i τ s ⟨hi, hx, t1, t15, t16, t17, tk, htk, hcan, t6⟩
      have hcat := part_len (f := numS) (l := l) (m := 22) (i := i) (fun x hx => numS_len (hl x hx).1 (hl x hx).2) hi
      simp -dsimp only [go_sem, t1, t6, t15, t16, t17]
      refine boolW_split (fun h1 => ?_) (fun h1 => ?_)
      · have h1 : i < l.length := by simp at h1; omega
        obtain ⟨n, hn⟩ := get_lt h1
        have hr := hl n (List.mem_iff_getElem?.2 ⟨i, hn⟩)
        simp -dsimp only [go_sem, t1, t6, t15, t16, t17]
        refine nth_get hn ?_
        simp -dsimp only [go_sem, t1, t6, t15, t16, t17]
        refine numbers1_c hr.1 hr.2 ?_
        simp -dsimp only [go_sem, t1, t6, t15, t16, t17]
        have hnl := numS_len hr.1 hr.2
        refine append_text E51 Try.underlying9 hcan (by omega) (by simp only [maxL]; omega) ?_
        simp -dsimp only [go_sem, t1, t6, t15, t16, t17]
        rw [wrap_i64 (by omega) (by omega)]
        refine later_intro ⟨i + 1, by omega, ?_⟩
        rw [part_succ hn, List.length_append]
        refine ⟨by omega, hx.grow htk, ?_, ?_, ?_, ?_, growT s tk, htk.grow hx, canApp_grow hcan, ?_⟩ <;> simp only [go_sem, t1, t15, t16, t17] <;> rfl
      · have h1 : i = l.length := by simp at h1; omega
        subst h1
        simp -dsimp only [go_sem, t1, t6, t15, t16, t17]
        refine build_byte E51 agg5 (by decide) (by decide) ?_
        simp -dsimp only [go_sem, t1, t6, t15, t16, t17]
        refine append_bytes E51 S51 hcan (by simp; omega) (by simp [maxL]; omega) ?_
        simp -dsimp only [go_sem, t1, t6, t15, t16, t17]
        exact ⟨hx.grow htk, rfl, hK⟩

theorem numbers_c {l : List Int} (hl : ∀ n ∈ l, -9223372036854775808 ≤ n ∧ n ≤ 9223372036854775807) {tk0 : Tk} {σ : AST} {K : AV → AST → Prop}
    (hK : K (if 512 < l.length then .tuple [.str [], .int .i64 4] else .tuple [.str (laidAll numS l), .int .i64 0]) σ) : TCalls Try.prog 14 [.slice tk0 (l.map (AV.int .i64))] σ K := by
  refine tcalls_walk Try.f14 _ [.tmp 2, .tmp 3] Try.func14 rfl rfl rfl mixed (Nat.le_of_ble_eq_true rfl) rfl fun hlen => ?_
  simp -dsimp only [go_sem]
  refine listInt_c hl ?_
  split
  · rename_i h
    rw [if_pos h] at hK
    simp -dsimp only [go_sem]
    exact hK
  · rename_i h
    rw [if_neg h] at hK
    simp -dsimp only [go_sem]
    exact hK
end Go.Aff.L01
