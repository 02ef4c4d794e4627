import Derived.Test.YtipnjeciaagabaaG17
import Derived.RangeFuncLeaves

set_option linter.unusedSimpArgs false
set_option linter.unusedVariables false

/- Layer 1, walked: numbers and texts. -/
namespace Go.Aff.L01
open Go.Proofs Go.Aff
set_option linter.unusedVariables false
set_option maxRecDepth 20000
set_option linter.unusedSimpArgs false
attribute [local go_sem] Try.underlying3 Try.underlying4 Try.underlying5 Try.underlying9 Try.underlying89 Try.underlying118 Try.underlying24

theorem number_c {n : Int} (h0 : -9223372036854775808 ≤ n) (h1 : n ≤ 9223372036854775807) {σ : AST} {K : AV → AST → Prop} (hK : K (.str (numS n)) σ) : TCalls Try.prog 56 [.int .i64 n] σ K := by
  refine TCalls.drop ?_
  refine tcalls_walk Try.f56 _ [.tmp 2] Try.func56 rfl rfl rfl mixed (Nat.le_of_ble_eq_true rfl) rfl fun hlen => ?_
  have hd := dg_len20 (n := n.natAbs) (by omega)
  simp -dsimp only [↓reduceIte, go_sem]
  refine boolW_split (fun hb => ?_) (fun hb => ?_)
  · have hneg : n < 0 := by simpa using hb
    simp -dsimp only [↓reduceIte, go_sem]
    refine build_byte E51 agg5 (by decide) (by decide) ?_
    simp -dsimp only [↓reduceIte, go_sem]
    rw [show IntKind.u64.wrap (0 - IntKind.u64.wrap n) = ((n.natAbs : Nat) : Int) by rw [IntKind.wrap_u64, IntKind.wrap_u64]; omega]
    refine digits_c _ (by omega) canFull (by simp) ?_
    simp -dsimp only [↓reduceIte, go_sem]
    refine build_byte E51 agg5 (by decide) (by decide) ?_
    simp -dsimp only [↓reduceIte, go_sem]
    refine append_bytes E51 S51 canGrow (by simp; omega) (by simp [maxL]; omega) ?_
    simp -dsimp only [↓reduceIte, go_sem]
    refine ⟨?_, rfl, ?_⟩
    · rw [growFull]; exact Ext.growFull _ _ _
    · have : numS n = [UInt8.ofNat (Int.toNat 45)] ++ dg n.natAbs ++ [UInt8.ofNat (Int.toNat 59)] := by simp [numS, hneg]
      rw [this] at hK; exact hK
  · have hneg : ¬ n < 0 := by simpa using hb
    simp -dsimp only [↓reduceIte, go_sem]
    rw [show IntKind.u64.wrap n = ((n.natAbs : Nat) : Int) by rw [IntKind.wrap_u64]; omega]
    refine digits_c (l := []) _ (by omega) canFull (by simp) ?_
    simp -dsimp only [↓reduceIte, go_sem]
    refine build_byte E51 agg5 (by decide) (by decide) ?_
    simp -dsimp only [↓reduceIte, go_sem]
    refine append_bytes E51 S51 canGrow (by simp; omega) (by simp [maxL]; omega) ?_
    simp -dsimp only [↓reduceIte, go_sem]
    refine ⟨?_, rfl, ?_⟩
    · rw [growFull]; exact Ext.growFull _ _ _
    · have : numS n = dg n.natAbs ++ [UInt8.ofNat (Int.toNat 59)] := by simp [numS, hneg]
      rw [this] at hK; exact hK

theorem Digits_c : ∀ (n : Nat), n < 9223372036854775808 → ∀ {σ : AST} {K : AV → AST → Prop}, K (.str (dg n)) σ → TCalls Try.prog 44 [.int .i64 n] σ K := by
  intro n
  induction n using Nat.strongRecOn with
  | ind n ih =>
  intro hn σ K hK
  refine tcalls_walk Try.f44 _ [.tmp 2] Try.func44 rfl rfl rfl mixed (Nat.le_of_ble_eq_true rfl) rfl fun hlen => ?_
  simp -dsimp only [↓reduceIte, go_sem]
  refine boolW_split (fun hb => ?_) (fun hb => ?_)
  · have h10 : n < 10 := by simp at hb; omega
    simp -dsimp only [↓reduceIte, go_sem]
    rw [wrap_i64 (by omega) (by omega), wrap_u8 (by omega) (by omega)]
    refine build_byte E51 agg5 (by omega) (by omega) ?_
    simp -dsimp only [↓reduceIte, go_sem]
    rw [dg_small h10] at hK
    rw [show ((48 : Int) + (n : Int)).toNat = 48 + n by omega]
    exact hK
  · have h10 : ¬ n < 10 := by simp at hb; omega
    simp -dsimp only [↓reduceIte, go_sem]
    refine awp_drawS [0, 1, 3, 4, 5, 6, 7, 8, 2, 9, 10] (by kernel_rfl) ?_
    simp -dsimp only [↓reduceIte, go_sem]
    rw [show Int.tmod (n : Int) 10 = ((n % 10 : Nat) : Int) from tmod_nat n 10, wrap_i64 (n := 48 + _) (by omega) (by omega), wrap_u8 (by omega) (by omega)]
    refine build_byte E51 agg5 (by omega) (by omega) ?_
    simp -dsimp only [↓reduceIte, go_sem]
    rw [show Int.tdiv (n : Int) 10 = ((n / 10 : Nat) : Int) from tdiv_nat n 10, wrap_i64 (by omega) (by omega)]
    refine ih (n / 10) (by omega) (by omega) ?_
    simp -dsimp only [↓reduceIte, go_sem]
    have hd := dg_len20 (n := n / 10) (by omega)
    refine side_later (by simp [maxL]; omega) ?_
    simp -dsimp only [↓reduceIte, go_sem]
    rw [dg_big h10] at hK
    rw [show ((48 : Int) + ((n % 10 : Nat) : Int)).toNat = 48 + n % 10 by omega]
    exact hK

/-- The reference's digits of a number from 0 on. -/
theorem Digits_i {i : Int} (h0 : 0 ≤ i) (h1 : i ≤ 9223372036854775807) {σ : AST} {K : AV → AST → Prop} (hK : K (.str (dg i.toNat)) σ) : TCalls Try.prog 44 [.int .i64 i] σ K := by
  have := Digits_c i.toNat (by omega) hK
  rwa [Int.toNat_of_nonneg h0] at this

theorem Number_c {n : Int} (h0 : -9223372036854775808 ≤ n) (h1 : n ≤ 9223372036854775807) {σ : AST} {K : AV → AST → Prop} (hK : K (.str (numS n)) σ) : TCalls Try.prog 31 [.int .i64 n] σ K := by
  refine tcalls_walk Try.f31 _ [.tmp 2] Try.func31 rfl rfl rfl mixed (Nat.le_of_ble_eq_true rfl) rfl fun hlen => ?_
  have hd := dg_len20 (n := n.natAbs) (by omega)
  simp -dsimp only [↓reduceIte, go_sem]
  refine boolW_split (fun hb => ?_) (fun hb => ?_)
  · have hneg : 0 ≤ n := by simpa using hb
    simp -dsimp only [↓reduceIte, go_sem]
    refine Digits_i hneg h1 ?_
    rw [show n.toNat = n.natAbs by omega]
    simp -dsimp only [↓reduceIte, go_sem]
    refine side_later (by simp [maxL]; omega) ?_
    simp -dsimp only [↓reduceIte, go_sem]
    have : numS n = dg n.natAbs ++ [59] := by simp [numS]; omega
    rw [this] at hK; exact hK
  · have hneg : n < 0 := by simpa using hb
    have ht := tdiv10_neg (n := n) (by omega)
    have hm := tmod10_neg (n := n) (by omega)
    simp -dsimp only [↓reduceIte, go_sem]
    rw [wrap_i64 (n := n.tdiv 10) (by omega) (by omega)]
    refine boolW_split (fun hz => ?_) (fun hz => ?_)
    · have hz : n.tdiv 10 = 0 := by simpa using hz
      simp -dsimp only [↓reduceIte, go_sem]
      rw [wrap_i64 (by omega) (by omega)]
      refine Digits_i (by omega) (by omega) ?_
      rw [show (0 - n).toNat = n.natAbs by omega]
      simp -dsimp only [↓reduceIte, go_sem]
      refine side_later (by simp [maxL]; omega) ?_
      simp -dsimp only [↓reduceIte, go_sem]
      refine side_later (by simp [maxL]; omega) ?_
      simp -dsimp only [↓reduceIte, go_sem]
      have : numS n = 45 :: (dg n.natAbs ++ [59]) := by simp [numS, hneg]
      rw [this] at hK; exact hK
    · have hz : ¬ n.tdiv 10 = 0 := by simpa using hz
      simp -dsimp only [↓reduceIte, go_sem]
      rw [wrap_i64 (n := n.tdiv 10) (by omega) (by omega), wrap_i64 (by omega) (by omega)]
      refine Digits_i (by omega) (by omega) ?_
      have e1 : (0 - n.tdiv 10).toNat = n.natAbs / 10 := by omega
      have e2 : (0 - n.tmod 10).toNat = n.natAbs % 10 := by omega
      have hd2 := dg_len20 (n := n.natAbs / 10) (by omega)
      have hd3 := dg_len20 (n := n.natAbs % 10) (by omega)
      rw [e1]
      simp -dsimp only [↓reduceIte, go_sem]
      refine side_later (by simp [maxL]; omega) ?_
      simp -dsimp only [↓reduceIte, go_sem]
      rw [wrap_i64 (by omega) (by omega)]
      refine Digits_i (by omega) (by omega) ?_
      rw [e2]
      simp -dsimp only [↓reduceIte, go_sem]
      refine side_later (by simp [maxL]; omega) ?_
      simp -dsimp only [↓reduceIte, go_sem]
      refine side_later (by simp [maxL]; omega) ?_
      simp -dsimp only [↓reduceIte, go_sem]
      have h10 : ¬ n.natAbs < 10 := by omega
      have : numS n = 45 :: (dg (n.natAbs / 10) ++ (dg (n.natAbs % 10) ++ [59])) := by
        rw [dg_small (n := n.natAbs % 10) (by omega)]
        simp [numS, hneg]
        rw [dg_big h10]; simp
      rw [this] at hK
      simpa using hK

def textS (s : List UInt8) : List UInt8 := dg s.length ++ [58] ++ s

theorem text_c {s : List UInt8} {σ : AST} {K : AV → AST → Prop} (hK : K (if 16384 < s.length then .tuple [.str [], .int .i64 4] else .tuple [.str (textS s), .int .i64 0]) σ) : TCalls Try.prog 57 [.str s] σ K := by
  refine TCalls.drop ?_
  refine tcalls_walk Try.f57 _ [.tmp 2, .tmp 3] Try.func57 rfl rfl rfl mixed (Nat.le_of_ble_eq_true rfl) rfl fun hlen => ?_
  simp -dsimp only [↓reduceIte, go_sem]
  refine arr_intro fun _ => ?_
  simp -dsimp only [↓reduceIte, go_sem]
  refine boolW_split (fun hb => ?_) (fun hb => ?_)
  · have hb : 16384 < s.length := by simp at hb; omega
    rw [if_pos hb] at hK
    simp -dsimp only [↓reduceIte, go_sem]
    exact ⟨Ext.refl _, rfl, hK⟩
  · have hb : ¬ 16384 < s.length := by simp at hb; omega
    rw [if_neg hb] at hK
    have hd := dg_len20 (n := s.length) (by omega)
    simp -dsimp only [↓reduceIte, go_sem]
    refine arr_intro fun _ => ?_
    simp -dsimp only [↓reduceIte, go_sem]
    rw [wrap_u64 (by omega) (by omega)]
    refine digits_c (l := []) _ (by omega) canFull (by simp) ?_
    simp -dsimp only [↓reduceIte, go_sem]
    refine build_byte E51 agg5 (by decide) (by decide) ?_
    simp -dsimp only [↓reduceIte, go_sem]
    refine append_bytes E51 S51 canGrow (by simp; omega) (by simp [maxL]; omega) ?_
    simp -dsimp only [↓reduceIte, go_sem]
    refine side_later (by simp [maxL]; omega) ?_
    simp -dsimp only [↓reduceIte, go_sem]
    refine ⟨?_, rfl, ?_⟩
    · rw [growFull]; exact Ext.growFull _ _ _
    · exact hK

end Go.Aff.L01

/- Layer 1, walked: lists that are laid. -/
namespace Go.Aff.L01
open Go.Proofs Go.Aff
set_option linter.unusedVariables false
set_option maxRecDepth 20000
set_option linter.unusedSimpArgs false
theorem agg9 : aggT Try.prog 9 = some false := by kernel_rfl
theorem cells9 : Try.prog.cellsOf 9 = 1 := by kernel_rfl
theorem fits3 {v : AV} : fits Try.prog 3 v = (v.isAgg = false ∧ v.size = 1) := fits_leaf agg3 cells3
theorem fits9 {v : AV} : fits Try.prog 9 v = (v.isAgg = false ∧ v.size = 1) := fits_leaf agg9 cells9
attribute [local go_sem] Try.underlying3 Try.underlying4 Try.underlying5 Try.underlying9 Try.underlying89 Try.underlying118 Try.underlying24 Try.underlying38 fits3 fits9

theorem numbers1_c {n : Int} (h0 : -9223372036854775808 ≤ n) (h1 : n ≤ 9223372036854775807) {σ : AST} {K : AV → AST → Prop} (hK : K (.tuple [.str (numS n), .int .i64 0]) σ) : TCalls Try.prog 60 [.int .i64 n] σ K := by
  refine tcalls_walk Try.f60 _ [.tmp 2, .tmp 3] Try.func60 rfl rfl rfl mixed (Nat.le_of_ble_eq_true rfl) rfl fun hlen => ?_
  simp -dsimp only [↓reduceIte, go_sem]
  refine number_c h0 h1 ?_
  simp -dsimp only [↓reduceIte, go_sem]
  exact hK

theorem flat_len {α : Type} {f : α → List UInt8} {m : Nat} : ∀ {l : List α}, (∀ x ∈ l, (f x).length ≤ m) → (l.flatMap f).length ≤ l.length * m
  | [], h => by simp
  | x :: r, h => by
    have := flat_len (f := f) (m := m) (l := r) (fun y hy => h y (by simp [hy]))
    have h1 := h x (by simp)
    simp only [List.flatMap_cons, List.length_append, List.length_cons, Nat.add_mul]
    omega
theorem flat_take {α : Type} {f : α → List UInt8} {l : List α} {i : Nat} {x : α} (h : l[i]? = some x) : (l.take (i + 1)).flatMap f = (l.take i).flatMap f ++ f x := by
  rw [List.take_add_one, h]; simp

/-- What is laid when i items are. -/
def part {α : Type} (f : α → List UInt8) (l : List α) (i : Nat) : List UInt8 := 40 :: (l.take i).flatMap f
theorem part_zero {α : Type} {f : α → List UInt8} {l : List α} : part f l 0 = [40] := by simp [part]
theorem part_succ {α : Type} {f : α → List UInt8} {l : List α} {i : Nat} {x : α} (h : l[i]? = some x) : part f l (i + 1) = part f l i ++ f x := by simp [part, flat_take h]
theorem part_all {α : Type} {f : α → List UInt8} {l : List α} : part f l l.length = 40 :: l.flatMap f := by simp [part]
theorem part_len {α : Type} {f : α → List UInt8} {l : List α} {m i : Nat} (h : ∀ x ∈ l, (f x).length ≤ m) (hi : i ≤ l.length) : (part f l i).length ≤ 1 + l.length * m := by
  have := flat_len (f := f) (m := m) (l := l.take i) (fun x hx => h x (List.mem_of_mem_take hx))
  have h2 : (l.take i).length * m ≤ l.length * m := Nat.mul_le_mul_right m (by simp; omega)
  simp only [part, List.length_cons]; omega
def laidAll {α : Type} (f : α → List UInt8) (l : List α) : List UInt8 := part f l l.length ++ [41]

theorem listInt_c {l : List Int} (hl : ∀ n ∈ l, -9223372036854775808 ≤ n ∧ n ≤ 9223372036854775807) {tk0 : Tk} {σ : AST} {K : AV → AST → Prop}
    (hK : K (if 512 < l.length then .tuple [.str [], .int .i64 4] else .tuple [.str (laidAll numS l), .int .i64 0]) σ) : TCalls Try.prog 59 [.slice tk0 (l.map (AV.int .i64)), .fn (.func 60) [] []] σ K := by
  refine TCalls.drop ?_
  refine tcalls_walk Try.f59 _ [.tmp 4, .tmp 5] Try.func59 rfl rfl rfl mixed (Nat.le_of_ble_eq_true rfl) rfl fun hlen => ?_
  have hs : l.length ≤ 9223372036854775807 := by
    have := hlen (.slice tk0 (l.map (AV.int .i64))) (by simp)
    simp only [lenOk, List.length_map, maxL] at this; exact this
  refine awp_seq_k fun KA hKA => ?_
  simp -dsimp only [↓reduceIte, go_sem]
  refine hKA _ _ ?_
  simp -dsimp only [↓reduceIte, go_sem]
  refine arr_intro fun _ => ?_
  simp only [List.length_map]
  simp -dsimp only [↓reduceIte, go_sem]
  refine boolW_split (fun hb => ?_) (fun hb => ?_)
  · have hb : 512 < l.length := by simp at hb; omega
    rw [if_pos hb] at hK
    simp -dsimp only [↓reduceIte, go_sem]
    exact ⟨Ext.refl _, rfl, hK⟩
  · have hb : ¬ 512 < l.length := by simp at hb; omega
    rw [if_neg hb] at hK
    simp -dsimp only [↓reduceIte, go_sem]
    refine build_byte E51 agg5 (by decide) (by decide) ?_
    simp -dsimp only [↓reduceIte, go_sem]
    refine arr_intro fun _ => ?_
    simp only [List.length_map]
    simp -dsimp only [↓reduceIte, go_sem]
    refine awp_rounds (fun (i : Nat) τ s => i ≤ l.length ∧ Ext σ s ∧ τ 1 = .fn (.func 60) [] [] ∧ τ 15 = .slice tk0 (l.map (AV.int .i64)) ∧ τ 16 = .int .i64 l.length ∧ τ 17 = .int .i64 i ∧
      ∃ tk, tkNew σ tk ∧ canApp s tk (part numS l i).length 1 ∧ τ 6 = .slice tk (u8s (part numS l i))) (fun i => l.length - i) 0 ?_ ?_
    · refine ⟨by omega, Ext.refl _, ?_, ?_, ?_, ?_, .full, .inl rfl, trivial, ?_⟩ <;> simp only [go_sem] <;> first | rfl | (rw [part_zero]; rfl)
    · rintro i τ s ⟨hi, hx, t1, t15, t16, t17, tk, htk, hcan, t6⟩
      have hcat := part_len (f := numS) (l := l) (m := 22) (i := i) (fun x hx => numS_len (hl x hx).1 (hl x hx).2) hi
      simp -dsimp only [↓reduceIte, go_sem, t1, t6, t15, t16, t17]
      refine boolW_split (fun h1 => ?_) (fun h1 => ?_)
      · have h1 : i < l.length := by simp at h1; omega
        obtain ⟨n, hn⟩ := get_lt h1
        have hr := hl n (List.mem_iff_getElem?.2 ⟨i, hn⟩)
        simp -dsimp only [↓reduceIte, go_sem, t1, t6, t15, t16, t17]
        refine nth_get hn ?_
        simp -dsimp only [↓reduceIte, go_sem, t1, t6, t15, t16, t17]
        refine numbers1_c hr.1 hr.2 ?_
        simp -dsimp only [↓reduceIte, go_sem, t1, t6, t15, t16, t17]
        have hnl := numS_len hr.1 hr.2
        refine append_text E51 Try.underlying9 hcan (by omega) (by simp only [maxL]; omega) ?_
        simp -dsimp only [↓reduceIte, go_sem, t1, t6, t15, t16, t17]
        rw [wrap_i64 (by omega) (by omega)]
        refine later_intro ⟨i + 1, by omega, ?_⟩
        rw [part_succ hn, List.length_append]
        refine ⟨by omega, hx.grow htk, ?_, ?_, ?_, ?_, growT s tk, htk.grow hx, canApp_grow hcan, ?_⟩ <;> simp only [go_sem, t1, t15, t16, t17] <;> rfl
      · have h1 : i = l.length := by simp at h1; omega
        subst h1
        simp -dsimp only [↓reduceIte, go_sem, t1, t6, t15, t16, t17]
        refine build_byte E51 agg5 (by decide) (by decide) ?_
        simp -dsimp only [↓reduceIte, go_sem, t1, t6, t15, t16, t17]
        refine append_bytes E51 S51 hcan (by simp; omega) (by simp [maxL]; omega) ?_
        simp -dsimp only [↓reduceIte, go_sem, t1, t6, t15, t16, t17]
        exact ⟨hx.grow htk, rfl, hK⟩

theorem numbers_c {l : List Int} (hl : ∀ n ∈ l, -9223372036854775808 ≤ n ∧ n ≤ 9223372036854775807) {tk0 : Tk} {σ : AST} {K : AV → AST → Prop}
    (hK : K (if 512 < l.length then .tuple [.str [], .int .i64 4] else .tuple [.str (laidAll numS l), .int .i64 0]) σ) : TCalls Try.prog 43 [.slice tk0 (l.map (AV.int .i64))] σ K := by
  refine tcalls_walk Try.f43 _ [.tmp 2, .tmp 3] Try.func43 rfl rfl rfl mixed (Nat.le_of_ble_eq_true rfl) rfl fun hlen => ?_
  simp -dsimp only [↓reduceIte, go_sem]
  refine listInt_c hl ?_
  split
  · rename_i h
    rw [if_pos h] at hK
    simp -dsimp only [↓reduceIte, go_sem]
    exact hK
  · rename_i h
    rw [if_neg h] at hK
    simp -dsimp only [↓reduceIte, go_sem]
    exact hK
end Go.Aff.L01

/- Layer 1, walked: lists compared; lists that are read, by their names. -/
namespace Go.Aff.L01
open Go.Proofs Go.Aff
set_option linter.unusedVariables false
set_option maxRecDepth 20000
set_option linter.unusedSimpArgs false
attribute [local go_sem] Try.underlying3 Try.underlying4 Try.underlying5 Try.underlying9 Try.underlying89 Try.underlying118 Try.underlying24 Try.underlying38 fits3 fits9

theorem ints_c {a b : List Int} {ta tb : Tk} {σ : AST} {K : AV → AST → Prop} (hK : K (.bool (decide (a = b))) σ) : TCalls Try.prog 62 [.slice ta (a.map (AV.int .i64)), .slice tb (b.map (AV.int .i64))] σ K := by
  refine tcalls_walk Try.f62 _ [.tmp 4] Try.func62 rfl rfl rfl mixed (Nat.le_of_ble_eq_true rfl) rfl fun hlen => ?_
  have ha : a.length ≤ 9223372036854775807 := by
    have := hlen (.slice ta (a.map (AV.int .i64))) (by simp)
    simp only [lenOk, List.length_map, maxL] at this; exact this
  simp -dsimp only [↓reduceIte, go_sem]
  refine arr_intro fun _ => ?_
  simp -dsimp only [↓reduceIte, go_sem]
  refine arr_intro fun _ => ?_
  simp only [List.length_map]
  simp -dsimp only [↓reduceIte, go_sem]
  refine boolW_split (fun h1 => ?_) (fun h1 => ?_)
  · have h1 : a.length ≠ b.length := by simp at h1; omega
    simp -dsimp only [↓reduceIte, go_sem]
    rw [show decide (a = b) = false by simp; intro h; rw [h] at h1; exact h1 rfl] at hK
    exact hK
  · have h1 : a.length = b.length := by simp at h1; omega
    simp -dsimp only [↓reduceIte, go_sem]
    refine awp_rounds (fun (i : Nat) τ s => s = σ ∧ i ≤ a.length ∧ τ 0 = .slice ta (a.map (AV.int .i64)) ∧ τ 1 = .slice tb (b.map (AV.int .i64)) ∧ τ 5 = .int .i64 i ∧ a.take i = b.take i) (fun i => a.length - i) 0 ?_ ?_
    · refine ⟨rfl, by omega, ?_, ?_, ?_, by simp⟩ <;> simp only [go_sem] <;> rfl
    · rintro i τ s ⟨rfl, hi, t0, t1, t5, ht⟩
      simp -dsimp only [↓reduceIte, go_sem, t0, t1, t5]
      refine arr_intro fun _ => ?_
      simp only [List.length_map]
      simp -dsimp only [↓reduceIte, go_sem, t0, t1, t5]
      refine boolW_split (fun h2 => ?_) (fun h2 => ?_)
      · have h2 : i < a.length := by simp at h2; omega
        obtain ⟨x, hx⟩ := get_lt h2
        obtain ⟨y, hy⟩ := get_lt (l := b) (i := i) (by omega)
        simp -dsimp only [↓reduceIte, go_sem, t0, t1, t5]
        refine awp_drawS [0, 1, 2, 3, 4, 5, 6, 7, 8] (by kernel_rfl) ?_
        simp -dsimp only [↓reduceIte, go_sem, t0, t1, t5]
        refine nth_get hx ?_
        simp -dsimp only [↓reduceIte, go_sem, t0, t1, t5]
        refine nth_get hy ?_
        simp -dsimp only [↓reduceIte, go_sem, t0, t1, t5]
        refine boolW_split (fun h3 => ?_) (fun h3 => ?_)
        · have h3 : x ≠ y := by simpa using h3
          simp -dsimp only [↓reduceIte, go_sem, t0, t1, t5]
          rw [show decide (a = b) = false by simp; intro h; rw [h, hy] at hx; exact h3 (Option.some.inj hx).symm] at hK
          exact hK
        · have h3 : x = y := by simpa using h3
          simp -dsimp only [↓reduceIte, go_sem, t0, t1, t5]
          rw [wrap_i64 (by omega) (by omega)]
          refine later_intro ⟨i + 1, by omega, ?_⟩
          refine ⟨rfl, by omega, ?_, ?_, ?_, ?_⟩ <;> (try simp only [go_sem, t0, t1, t5]) <;> try rfl
          rw [List.take_add_one, List.take_add_one, ht, hx, hy, h3]
      · have h2 : i = a.length := by simp at h2; omega
        simp -dsimp only [↓reduceIte, go_sem, t0, t1, t5]
        rw [h2, List.take_length, h1, List.take_length] at ht
        rw [show decide (a = b) = true by simpa using ht] at hK
        exact hK

end Go.Aff.L01

/- Walking: variables in memory, structs. -/
namespace Go.Aff
set_option linter.unusedVariables false
set_option linter.unusedSimpArgs false

variable {P : Program} {σ σ' : AST} {K : AV → AST → Prop} {KV : AV → Prop} {KS : AST → Prop}

/-- What a place of memory holds. -/
def objCell (o : AObj) (p : List Nat) : Option AV := match o with
  | .cells v => v.at p
  | _ => none
def cellAt (σ : AST) (j : Nat) (p : List Nat) : Option AV := (σ.objs[j]?).bind fun o => objCell o p

theorem cellAt_new {o : AObj} {p : List Nat} : cellAt (σ.push o) σ.objs.length p = objCell o p := by simp [cellAt, AST.push]
theorem cellAt_old {o : AObj} {j : Nat} {p : List Nat} (h : j < σ.objs.length) : cellAt (σ.push o) j p = cellAt σ j p := by simp [cellAt, AST.push, List.getElem?_append_left h]
theorem cellAt_tok {n es j : Nat} {p : List Nat} : cellAt (σ.tok n es) j p = cellAt σ j p := nr rfl
theorem cellAt_setTok {t n es j : Nat} {p : List Nat} : cellAt (σ.setTok t n es) j p = cellAt σ j p := nr rfl
theorem cellAt_growS {tk : Tk} {n es j : Nat} {p : List Nat} : cellAt (growS σ tk n es) j p = cellAt σ j p := by cases tk <;> rfl
theorem objCell_cells {v : AV} {p : List Nat} : objCell (.cells v) p = v.at p := nr rfl
theorem at_agg {ps : List AV} {i : Nat} {p : List Nat} : (AV.agg ps).at (i :: p) = (ps[i]?).bind fun v => v.at p := nr rfl
theorem length_push {o : AObj} : (σ.push o).objs.length = σ.objs.length + 1 := by simp [AST.push]
theorem length_tok {n es : Nat} : (σ.tok n es).objs.length = σ.objs.length := nr rfl
theorem length_setTok {t n es : Nat} : (σ.setTok t n es).objs.length = σ.objs.length := nr rfl
theorem length_growS {tk : Tk} {n es : Nat} : (growS σ tk n es).objs.length = σ.objs.length := by cases tk <;> rfl
theorem length_set {i : Nat} {o : AObj} : (σ.set i o).objs.length = σ.objs.length := by simp [AST.set]

def loadC (P : Program) (t : TypeId) (x : Option AV) (K : AV → Prop) : Prop := match x with
  | some x => fits P t x ∧ K x
  | none => False
theorem load_ptr {t : TypeId} {j : Nat} {p : List Nat} : loadW P σ t (.ptr (some (j, p))) KV = loadC P t (cellAt σ j p) KV := by
  simp only [loadW, cellAt]
  cases h : σ.objs[j]? with
  | none => simp [loadC]
  | some o =>
    cases o with
    | cells v => simp only [Option.bind_some, objCell, loadC]; cases v.at p <;> rfl
    | _ => simp [objCell, loadC]
theorem loadC_some {t : TypeId} {x : AV} : loadC P t (some x) KV = (fits P t x ∧ @Later ⟨KV x⟩) := nr rfl

def fieldAddrC (P : Program) (t : TypeId) (x : Option AV) (j : Nat) (p : List Nat) (i : Nat) (K : AV → Prop) : Prop := match x with
  | some (.agg ps) => match ps[i]? with
    | some x => partIs P t ps i x ∧ 0 < x.size ∧ K (.ptr (some (j, p ++ [i])))
    | none => False
  | _ => False
def fieldAddrP (P : Program) (t : TypeId) (ps : List AV) (x : Option AV) (j : Nat) (p : List Nat) (i : Nat) (K : AV → Prop) : Prop := match x with
  | some x => partIs P t ps i x ∧ 0 < x.size ∧ K (.ptr (some (j, p ++ [i])))
  | none => False
theorem fieldAddr_ptr {t : TypeId} {j i : Nat} {p : List Nat} : fieldAddrW P σ t (.ptr (some (j, p))) i KV = fieldAddrC P t (cellAt σ j p) j p i KV := by
  simp only [fieldAddrW, cellAt]
  cases h : σ.objs[j]? with
  | none => simp [fieldAddrC]
  | some o =>
    cases o with
    | cells v => simp only [Option.bind_some, objCell, fieldAddrC]; cases v.at p <;> rfl
    | _ => simp [objCell, fieldAddrC]
theorem fieldAddrC_agg {t : TypeId} {ps : List AV} {j i : Nat} {p : List Nat} : fieldAddrC P t (some (.agg ps)) j p i KV = fieldAddrP P t ps ps[i]? j p i KV := nr rfl
theorem fieldAddrP_some {t : TypeId} {ps : List AV} {x : AV} {j i : Nat} {p : List Nat} : fieldAddrP P t ps (some x) j p i KV = ((partIs P t ps i x ∧ 0 < x.size) ∧ @Later ⟨KV (.ptr (some (j, p ++ [i])))⟩) := by
  simp [fieldAddrP, Later, and_assoc]
def fieldAddrE (P : Program) (t : TypeId) (ps : List AV) (x : Option AV) (i : Nat) (K : AV → Prop) : Prop := match x with
  | some x => partIs P t ps i x ∧ 0 < x.size ∧ K (.eptr x)
  | none => False
theorem fieldAddr_eptr {t : TypeId} {ps : List AV} {i : Nat} : fieldAddrW P σ t (.eptr (.agg ps)) i KV = fieldAddrE P t ps ps[i]? i KV := nr rfl
theorem fieldAddrE_some {t : TypeId} {ps : List AV} {x : AV} {i : Nat} : fieldAddrE P t ps (some x) i KV = ((partIs P t ps i x ∧ 0 < x.size) ∧ @Later ⟨KV (.eptr x)⟩) := by
  simp [fieldAddrE, Later, and_assoc]
def fieldE (P : Program) (t : TypeId) (ps : List AV) (x : Option AV) (i : Nat) (K : AV → Prop) : Prop := match x with
  | some x => partIs P t ps i x ∧ K x
  | none => False
theorem field_agg {t : TypeId} {ps : List AV} {i : Nat} : fieldW P t (.agg ps) i KV = fieldE P t ps ps[i]? i KV := nr rfl
theorem fieldE_some {t : TypeId} {ps : List AV} {x : AV} {i : Nat} : fieldE P t ps (some x) i KV = (partIs P t ps i x ∧ @Later ⟨KV x⟩) := nr rfl

theorem partIs_of {t : TypeId} {i o : Nat} {T : TypeId} (h : placeOf P t i = some (o, T)) {ps : List AV} {x : AV} : partIs P t ps i x = (o = AV.sizes (ps.take i) ∧ fits P T x) := by
  simp only [partIs, h, Option.some.injEq, Prod.mk.injEq, eq_iff_iff]
  constructor
  · rintro ⟨_, ⟨h1, rfl⟩, h2⟩; exact ⟨h1, h2⟩
  · rintro ⟨h1, h2⟩; exact ⟨T, ⟨h1, rfl⟩, h2⟩

attribute [go_sem] cellAt_new cellAt_tok cellAt_setTok cellAt_growS objCell_cells at_nil at_agg length_push length_tok length_setTok length_growS length_set load_ptr loadC_some fieldAddr_ptr fieldAddrC_agg fieldAddrP_some
attribute [go_sem] fieldAddr_eptr fieldAddrE_some field_agg fieldE_some Option.bind_some List.take_zero List.take_succ_cons Nat.reduceEqDiff Nat.zero_add Nat.zero_lt_one and_self List.map_cons List.map_nil List.append_nil
end Go.Aff

/- A range over a function: the rounds, the statement, the function that holds it. -/
namespace Go.Aff
set_option linter.unusedVariables false
set_option linter.unusedSimpArgs false

variable {g g' : G} {w w' : World} {σ σ' : AST} {P : Program}

/-- The record of a loop. -/
def rec (fn : FuncId) (tm : Array Value) (ps : Array Tmp) (assign body : Code) (D : Nat) (st : LoopState) (pe : Option Code) : Obj :=
  .loop { state := st, pending := pe, fn, tmps := tm, params := ps, assign, body, defers := D }

/-- The places of a round: those of the loop's beginning, with yield's arguments. -/
def envR (vs : List AV) (ps : List Tmp) (args : List AV) : Env := (ps.zip args).foldl (fun τ p => τ.put p.1 p.2) (env0 vs)

theorem relE_zip : ∀ {ps : List Tmp} {args : List AV} {xs : List Value} {τ : Env} {tm : Array Value}, relE g w τ tm → (∀ p ∈ ps, p < tm.size) → relA g w args xs →
    relE g w ((ps.zip args).foldl (fun τ p => τ.put p.1 p.2) τ) ((ps.zip xs).foldl (fun t p => t.setIfInBounds p.1 p.2) tm) ∧ ((ps.zip xs).foldl (fun t p => t.setIfInBounds p.1 p.2) tm).size = tm.size
  | [], _, _, _, _, h, _, _ => by simp; exact h
  | p :: ps, [], [], _, _, h, _, _ => by simp; exact h
  | p :: ps, [], x :: xs, _, _, h, _, ha => by simp [relA] at ha
  | p :: ps, v :: vs, [], _, _, h, _, ha => by simp [relA] at ha
  | p :: ps, v :: vs, x :: xs, τ, tm, h, hp, ha => by
    simp only [List.zip_cons_cons, List.foldl_cons]
    have h1 := relE_put (a := { tmps := tm, defers := [] }) (d := some p) h (fun k hk => by cases hk; exact hp p (by simp)) (ha.2 0 v x rfl rfl)
    simp only [Env.putO, Act.put] at h1
    have h2 := relE_zip (ps := ps) (args := vs) (xs := xs) h1 (fun q hq => by simp; exact hp q (by simp [hq])) ⟨by have := ha.1; simp at this; exact this, fun i v x hv hx => ha.2 (i + 1) v x hv hx⟩
    exact ⟨h2.1, by rw [h2.2]; simp⟩

/-- How a round is left. -/
def roundQ (il l : Nat) (vs : List AV) (xs : List Value) (R : LoopState → Option Code → Obj) (K : AV → AST → Prop) : Exit → Env → AST → Prop := fun e τ σ =>
  σ.objs[il]? = some (.pin l (R .busy none) vs xs) ∧ match e with
  | .normal => K (.bool true) (σ.set il (.pin l (R .ready none) vs xs))
  | .ret => K (.bool false) (σ.set il (.pin l (R .done (some .ret)) vs xs))
  | .exit id => K (.bool false) (σ.set il (.pin l (R .done (some (.exit id))) vs xs))
  | .goto t => K (.bool false) (σ.set il (.pin l (R .done (some (.goto t))) vs xs))
  | _ => False

theorem ycalls_of (hm : P.follows .mixedOrders = true) {fn : FuncId} {tm : Array Value} {ps : Array Tmp} {assign body : Code} {D l il : Nat} {vs args : List AV} {K : AV → AST → Prop}
    (hσ : σ.objs[il]? = some (.pin l (rec fn tm ps assign body D .ready none) vs tm.toList)) (hps : args.length = ps.size) (hp : ∀ p ∈ ps.toList, p < tm.size)
    (hvl : vs.length ≤ tm.size) (hd1 : dstOk tm.size assign = true) (hd2 : dstOk tm.size body = true)
    (h : awp P assign (thenQ (fun τ σ1 => σ1.objs[il]? = some (.pin l (rec fn tm ps assign body D .ready none) vs tm.toList) ∧
      awp P body (roundQ il l vs tm.toList (rec fn tm ps assign body D) K) τ (σ1.set il (.pin l (rec fn tm ps assign body D .busy none) vs tm.toList))) (fun _ _ _ => False)) (envR vs ps.toList args) σ) :
    YCalls P l args σ K := by
  intro g w xs hI hA
  obtain ⟨hl, hr⟩ := inv_pin_heap hI hσ
  have hxs : xs.size = ps.size := by have := hA.1; simp at this; omega
  refine ⟨fn, _, assign, body, run_yield hl hxs, roundIn_of_wpIn trivial ?_⟩
  dsimp only
  have h0 : relE g w (env0 vs) tm := by
    intro t
    unfold env0
    rw [List.getD_eq_getElem?_getD]
    cases hv : vs[t]? with
    | none => exact .inl rfl
    | some v =>
      by_cases ht : t < tm.size
      · have hx : tm.toList[t]? = some tm[t] := by simp [ht]
        rcases hr t v _ hv hx with rfl | h
        · exact .inl rfl
        · simp only [Option.getD_some, Array.getD, ht, dif_pos]; exact .inr (.inr h)
      · have := (List.getElem?_eq_some_iff.1 hv).1
        omega
  have htm : (ps.zip xs).foldl (fun tmps (t, a) => tmps.setIfInBounds t a) tm = (ps.toList.zip xs.toList).foldl (fun t p => t.setIfInBounds p.1 p.2) tm := by
    rw [← Array.foldl_toList, Array.toList_zip]
  rw [htm]
  obtain ⟨hz, hzs⟩ := relE_zip (ps := ps.toList) h0 hp hA
  have s1 := awp_sound (r0 := some l) (n := tm.size) hm assign (a := { tmps := (ps.toList.zip xs.toList).foldl (fun t p => t.setIfInBounds p.1 p.2) tm, defers := [] }) hd1 h hI hz hzs
  refine wpIn_mono s1 ?_
  rintro e a1 w1 ⟨g1, τ1, σ1, hE1, hI1, hr1, hn1, hds1, hq1⟩
  cases e with
  | normal =>
    obtain ⟨hs1, hb⟩ := hq1
    obtain ⟨hl1, hE2, hI2⟩ := inv_pin (o' := rec fn tm ps assign body D .busy none) hI1 hs1
    refine ⟨_, run_beginRound hl1 rfl, ?_⟩
    have s2 := awp_sound (r0 := some l) (n := tm.size) hm body hd2 hb hI2 (relE_mono hE2 hr1) hn1
    refine wpIn_mono s2 ?_
    rintro e a3 w3 ⟨g3, τ3, σ3, hE3, hI3, hr3, hn3, hds3, hs3, hq3⟩
    have hEE := hE1.trans (hE2.trans hE3)
    have fin : ∀ (jump : Option Code) (st : LoopState), st = (if jump.isNone then .ready else .done) → K (.bool jump.isNone) (σ3.set il (.pin l (rec fn tm ps assign body D st jump) vs tm.toList)) →
        ∃ v w', (Instr.endRound l jump).run P w3 = .ok v w' ∧ ∃ x g' v' σ', Ending.returned v = .returned x ∧ Ev g w g' w' ∧ Inv g' σ' w' ∧ relV g' w' v' x ∧ K v' σ' := by
      intro jump st hst hk
      obtain ⟨hl3, hE4, hI4⟩ := inv_pin (o' := rec fn tm ps assign body D st jump) hI3 hs3
      refine ⟨_, _, run_endRound jump hl3, _, g3, .bool jump.isNone, _, rfl, hEE.trans ?_, ?_, relV_mkBool _, hk⟩
      · rw [← hst]; exact hE4
      · rw [← hst]; exact hI4
    cases e with
    | normal => exact fin none .ready rfl hq3
    | ret => exact fin (some .ret) .done rfl hq3
    | exit id => exact fin (some (.exit id)) .done rfl hq3
    | goto t => exact fin (some (.goto t)) .done rfl hq3
    | panic ch => exact hq3.elim
    | outgrown => exact hq3.elim
  | exit id => exact hq1.elim
  | goto l => exact hq1.elim
  | ret => exact hq1.elim
  | panic ch => exact hq1.elim
  | outgrown => exact hq1.elim

/-! ### Code with marks -/
def LiftX (n : Nat) (g0 : G) (w0 : World) (Q : Exit → List Deferred → Env → AST → Prop) : Exit → Act → World → Prop := fun e a w =>
  ∃ g τ σ, Ev g0 w0 g w ∧ Inv g σ w ∧ relE g w τ a.tmps ∧ a.tmps.size = n ∧ Q e a.defers τ σ
def wpX (P : Program) (n : Nat) (c : Code) (Q : Exit → List Deferred → Env → AST → Prop) (ds : List Deferred) (τ : Env) (σ : AST) : Prop :=
  ∀ (g : G) (w : World) (a : Act), Inv g σ w → relE g w τ a.tmps → a.tmps.size = n → a.defers = ds → c.wpIn (FR none) 0 P (LiftX n g w Q) a w
theorem LiftX.trans {n : Nat} {Q : Exit → List Deferred → Env → AST → Prop} {e : Exit} {a : Act} {w0 w1 : World} {g0 g1 : G} (hE : Ev g0 w0 g1 w1) (h : LiftX n g1 w1 Q e a w) : LiftX n g0 w0 Q e a w := by
  obtain ⟨g2, τ, σ, h1, h2⟩ := h
  exact ⟨g2, τ, σ, hE.trans h1, h2⟩
theorem wpX_awp {n : Nat} {c : Code} {Q : Exit → List Deferred → Env → AST → Prop} {ds : List Deferred} {τ : Env} (hm : P.follows .mixedOrders = true) (hd : dstOk n c = true) (h : (∀ t, lenOk (τ t)) → awp P c (fun e τ σ => Q e ds τ σ) τ σ) : wpX P n c Q ds τ σ := by
  intro g w a hI hr hn hds
  refine wpIn_mono (awp_sound (r0 := none) hm c hd (h fun t => lenOk_of (hr t)) hI hr hn) ?_
  rintro e a' w' ⟨g', τ', σ', hE, hI', hr', hn', hds', hq⟩
  exact ⟨g', τ', σ', hE, hI', hr', hn', by rw [hds', hds]; exact hq⟩
theorem wpX_seq {n : Nat} {x y : Code} {Q : Exit → List Deferred → Env → AST → Prop} {ds : List Deferred} {τ : Env} (h : wpX P n x (fun e ds τ σ => match e with | .normal => wpX P n y Q ds τ σ | e => Q e ds τ σ) ds τ σ) : wpX P n (.seq x y) Q ds τ σ := by
  intro g w a hI hr hn hds
  refine wpIn_seq (wpIn_mono (h g w a hI hr hn hds) ?_)
  rintro e a' w' ⟨g', τ', σ', hE, hI', hr', hn', hq⟩
  cases e with
  | normal => exact wpIn_mono (hq g' w' a' hI' hr' hn' rfl) fun e a2 w2 hl => LiftX.trans hE hl
  | exit id => exact ⟨g', τ', σ', hE, hI', hr', hn', hq⟩
  | goto l => exact ⟨g', τ', σ', hE, hI', hr', hn', hq⟩
  | ret => exact ⟨g', τ', σ', hE, hI', hr', hn', hq⟩
  | panic ch => exact ⟨g', τ', σ', hE, hI', hr', hn', hq⟩
  | outgrown => exact ⟨g', τ', σ', hE, hI', hr', hn', hq⟩
theorem wpX_seq_k {n : Nat} {x y : Code} {Q : Exit → List Deferred → Env → AST → Prop} {ds : List Deferred} {τ : Env} (hm : P.follows .mixedOrders = true) (hd : dstOk n x = true)
    (h : ∀ KR : Env → AST → Prop, (∀ τ σ, wpX P n y Q ds τ σ → KR τ σ) → awp P x (thenQ KR fun _ _ _ => False) τ σ) : wpX P n (.seq x y) Q ds τ σ := by
  refine wpX_seq fun g w a hI hr hn hds => ?_
  refine wpIn_mono (awp_sound (r0 := none) hm x hd (h _ fun _ _ h => h) hI hr hn) ?_
  rintro e a' w' ⟨g', τ', σ', hE, hI', hr', hn', hds', hq⟩
  cases e with
  | normal => exact ⟨g', τ', σ', hE, hI', hr', hn', by rw [hds', hds]; exact hq⟩
  | exit id => exact hq.elim
  | goto l => exact hq.elim
  | ret => exact hq.elim
  | panic ch => exact hq.elim
  | outgrown => exact hq.elim
theorem wpX_block {n id : Nat} {c : Code} {Q : Exit → List Deferred → Env → AST → Prop} {ds : List Deferred} {τ : Env} (h : wpX P n c (fun e ds τ σ => blockQ id (fun e τ σ => Q e ds τ σ) e τ σ) ds τ σ) : wpX P n (.block id c) Q ds τ σ := by
  intro g w a hI hr hn hds
  refine wpIn_block (wpIn_mono (h g w a hI hr hn hds) ?_)
  rintro e a' w' ⟨g', τ', σ', hE, hI', hr', hn', hq⟩
  cases e with
  | exit id' =>
    simp only [Exit.inBlock, blockQ] at hq ⊢
    split
    · rename_i e; rw [if_pos e] at hq; exact ⟨g', τ', σ', hE, hI', hr', hn', hq⟩
    · rename_i e; rw [if_neg e] at hq; exact ⟨g', τ', σ', hE, hI', hr', hn', hq⟩
  | normal => exact ⟨g', τ', σ', hE, hI', hr', hn', hq⟩
  | goto l => exact ⟨g', τ', σ', hE, hI', hr', hn', hq⟩
  | ret => exact ⟨g', τ', σ', hE, hI', hr', hn', hq⟩
  | panic ch => exact ⟨g', τ', σ', hE, hI', hr', hn', hq⟩
  | outgrown => exact ⟨g', τ', σ', hE, hI', hr', hn', hq⟩
/-- The statement: the function that is ranged over is called, with yield; behind it the jump that a round has left. -/
theorem wpX_range {n gf : Nat} {fo : Operand} {cap vs : List AV} {ps : Array Tmp} {assign body : Code} {Q : Exit → List Deferred → Env → AST → Prop} {ds : List Deferred} {τ : Env}
    (hf : ev τ fo = .fn (.func gf) [] cap) (hvs : ∀ (i : Nat) v, vs[i]? = some v → v = .undef ∨ (v = τ i ∧ v.known = true)) (hlen : vs.length ≤ n)
    (h : ∀ (fn : FuncId) (l D : Nat) (tm : Array Value), tm.size = n → TCalls P gf (.fn (.yield l) [] [] :: cap) ((σ.push (.pin D (.deferred (some [])) [] [])).push (.pin l (rec fn tm ps assign body D .ready none) vs tm.toList)) fun v σ' =>
      ∃ st pe, st ≠ .busy ∧ σ'.objs[σ.objs.length + 1]? = some (.pin l (rec fn tm ps assign body D st pe) vs tm.toList) ∧
        match pe with
        | none => Q .normal (⟨.collected D, #[]⟩ :: ds) τ (σ'.set (σ.objs.length + 1) (.pin l (rec fn tm ps assign body D .exhausted pe) vs tm.toList))
        | some c => wpX P n c Q (⟨.collected D, #[]⟩ :: ds) τ (σ'.set (σ.objs.length + 1) (.pin l (rec fn tm ps assign body D .exhausted pe) vs tm.toList))) :
    wpX P n (.rangeFunc fo ps assign body) Q ds τ σ := by
  intro g w a hI hr hn hds
  refine wpIn_rangeFunc ?_
  intro fn _
  have hx := ev_rel (a := a) hr fo
  rw [hf] at hx
  have hfv := (relV_scalar hx rfl rfl).1
  simp only [relC, List.cons.injEq, and_true] at hfv
  obtain ⟨p, q, h1, h2, h3⟩ := hfv
  simp only [relVs] at h2
  obtain rfl : p = #[] := by cases p; simp_all
  obtain ⟨g1, hE1, hI1⟩ := inv_pushPin (o := .deferred (some [])) (vs := []) (xs := []) hI (fun i v x h => by simp at h)
  obtain ⟨g2, hE2, hI2⟩ := inv_pushPin (o := rec fn a.tmps ps assign body w.heap.size .ready none) (vs := vs) (xs := a.tmps.toList) hI1 (fun i v x hv hx => by
    rcases hvs i v hv with rfl | ⟨rfl, hk⟩
    · exact .inl rfl
    · have := hr i
      have hi : i < a.tmps.size := by have := (List.getElem?_eq_some_iff.1 hx).1; simpa using this
      have hxe : a.tmps.getD i Go.undef = x := by
        simp only [Array.getElem?_toList, Array.getElem?_eq_getElem hi, Option.some.injEq] at hx
        simp [Array.getD, hi, hx]
      rw [hxe] at this
      exact .inr (relV_known (relV_mono hE1 this) hk))
  have hEE := hE1.trans hE2
  rw [World.size_alloc] at hI2
  obtain ⟨hok, hT⟩ := h fn (w.heap.size + 1) w.heap.size a.tmps hn
  have hAA : relA g2 ((w.alloc (.deferred (some []))).alloc (rec fn a.tmps ps assign body w.heap.size .ready none)) (.fn (.yield (w.heap.size + 1)) [] [] :: cap) (#[Value.func (Fn.yield (w.heap.size + 1)) #[] #[]] ++ q).toList := by
    have := relA_append (g := g2) (w := (w.alloc (.deferred (some []))).alloc (rec fn a.tmps ps assign body w.heap.size .ready none)) (a := [AV.fn (Fn.yield (w.heap.size + 1)) [] []]) (x := [Value.func (Fn.yield (w.heap.size + 1)) #[] #[]]) (b := cap) (y := q.toList) ?_ (relA_of_relVs (relVs_mono hEE h3))
    · simpa using this
    · refine relA_of_relVs ?_
      simp only [relVs]
      exact ⟨_, _, rfl, by simp only [Value.cells, relC]; exact ⟨#[], #[], rfl, by simp [relVs], by simp [relVs]⟩, rfl, rfl⟩
  generalize hW : (w.alloc (.deferred (some []))).alloc (rec fn a.tmps ps assign body w.heap.size .ready none) = W2 at *
  have hen : (Instr.enterLoop fn a.tmps ps assign body none).run P w = .ok (w.heap.size + 1, [{ target := .collected w.heap.size, args := #[] }]) W2 := by rw [← hW]; exact run_enterLoop_outer _ _ _ _ _
  refine ⟨w.heap.size + 1, _, W2, { target := Target.fn (Fn.func gf) q, args := #[Value.func (Fn.yield (w.heap.size + 1)) #[] #[]] }, W2, gf, #[Value.func (Fn.yield (w.heap.size + 1)) #[] #[]] ++ q, W2, hen, ?_, fun _ _ => trivial, ?_, fun h => by simp at h, ?_⟩
  · simp only [resolve, h1]
    simp [go_sem, Deferred.ofValue]
  · simp [invoke, go_sem, callFunc_run hok]
  · refine (calls_in (hT g2 _ _ hI2 hAA)).mono ?_
    rintro e w3 ⟨x, g3, v, σ3, rfl, hE3, hI3, hr3, st, pe, hst, hs3, hq⟩
    obtain ⟨hl3, hE4, hI4⟩ := inv_pin (o' := rec fn a.tmps ps assign body w.heap.size .exhausted pe) hI3 hs3
    refine ⟨pe, _, run_endLoop hl3 hst, ?_⟩
    have hE5 := (hEE.trans hE3).trans hE4
    cases pe with
    | none => exact ⟨g3, τ, _, hE5, hI4, relE_mono hE5 hr, hn, by dsimp only; rw [hds]; exact hq⟩
    | some c => exact wpIn_mono (hq g3 _ _ hI4 (relE_mono hE5 hr) hn (by dsimp only; rw [hds]; rfl)) fun e a2 w2 hl => LiftX.trans hE5 hl

/-- How the function is left: the mark is taken up. -/
def endX (P : Program) (fn : Func) (K : AV → AST → Prop) : Exit → List Deferred → Env → AST → Prop := fun e ds τ σ =>
  (e = .normal ∨ e = .ret) ∧ ∃ D i vs xs, ds = [⟨.collected D, #[]⟩] ∧ σ.objs[i]? = some (.pin D (.deferred (some [])) vs xs) ∧
    resW P fn.results.toList τ (σ.set i (.pin D (.deferred none) vs xs)) fun v => K v (σ.set i (.pin D (.deferred none) vs xs))

theorem tcalls_ofX {f : FuncId} (fn : Func) {c : Code} {args : List AV} {K : AV → AST → Prop} (hok : FnOk P f) (hf : P.funcs[f]? = some fn) (hb : fn.body = some c) (hn : args.length ≤ fn.ntmps)
    (h : (∀ v ∈ args, lenOk v) → wpX P fn.ntmps c (endX P fn K) [] (env0 args) σ) : TCalls P f args σ K := by
  refine ⟨hok, fun g w xs hI hA => ?_⟩
  have hlen : ∀ v ∈ args, lenOk v := by
    intro v hv
    obtain ⟨i, hi⟩ := List.mem_iff_getElem?.1 hv
    have hlt : i < xs.toList.length := by rw [← hA.1]; exact (List.getElem?_eq_some_iff.1 hi).1
    exact lenOk_of (hA.2 i v _ hi (List.getElem?_eq_getElem hlt))
  have hsz : xs.size = args.length := by have := hA.1; simp at this; omega
  refine (callsIn_wide (n := 0)).1 (callsIn_of_wp_marks (F := FR none) hf hb trivial ?_ rfl)
  refine wpIn_mono (h hlen g w { tmps := xs ++ Array.replicate (fn.ntmps - xs.size) Go.undef, defers := [] } hI (env0_rel hA _) (by simp; omega) rfl) ?_
  rintro e a' w' ⟨g', τ', σ', hE, hI', hr', hn', he, D, i, vs, ys, hds, hi, hq⟩
  obtain ⟨hD, hE2, hI2⟩ := inv_pin (o' := .deferred none) hI' hi
  have key : LeavesInM (FR none) 0 P fn a'.tmps (fun e w' => ∃ x g' v σ', e = .returned x ∧ Ev g w g' w' ∧ Inv g' σ' w' ∧ relV g' w' v x ∧ K v σ') a'.defers .returning w' := by
    rw [hds]
    refine ⟨by simp, .inl ⟨_, _, rfl, run_takeDeferred hD, ?_⟩⟩
    obtain ⟨y, v, hy, hv, hk⟩ := resW_run hI2 (relE_mono hE2 hr') hq
    exact ⟨y, hy, y, g', v, _, rfl, hE.trans hE2, hI2, hv, hk⟩
  rcases he with rfl | rfl
  · exact key
  · exact key
end Go.Aff

