import Derived.Test.YtnpbneiaflgpdaaG17

set_option linter.unusedSimpArgs false
set_option linter.unusedVariables false

/- Layer 1, walked: numbers and texts. -/
namespace Go.Aff.L01
open Go.Proofs Go.Aff
set_option linter.unusedVariables false
set_option maxRecDepth 20000
set_option linter.unusedSimpArgs false
attribute [local go_sem] Try.underlying3 Try.underlying4 Try.underlying5 Try.underlying9 Try.underlying52 Try.underlying120 Try.underlying34

theorem number_c {n : Int} (h0 : -9223372036854775808 ≤ n) (h1 : n ≤ 9223372036854775807) {σ : AST} {K : AV → AST → Prop} (hK : K (.str (numS n)) σ) : TCalls Try.prog 59 [.int .i64 n] σ K := by
  refine TCalls.drop ?_
  refine tcalls_walk Try.f59 _ [.tmp 2] Try.func59 rfl rfl rfl mixed (Nat.le_of_ble_eq_true rfl) rfl fun hlen => ?_
  have hd := dg_len20 (n := n.natAbs) (by omega)
  simp -dsimp only [↓reduceIte, go_sem]
  refine boolW_split (fun hb => ?_) (fun hb => ?_)
  · have hneg : n < 0 := by simpa using hb
    simp -dsimp only [↓reduceIte, go_sem]
    refine build_byte E51 agg5 (by decide) (by decide) ?_
    simp -dsimp only [↓reduceIte, go_sem]
    rw [show IntKind.u64.wrap (0 - IntKind.u64.wrap n) = ((n.natAbs : Nat) : Int) by rw [IntKind.wrap_u64, IntKind.wrap_u64]; omega]
    refine digits_c _ (by omega) canFull (by simp) ?_
    simp -dsimp only [↓reduceIte, go_sem]
    refine build_byte E51 agg5 (by decide) (by decide) ?_
    simp -dsimp only [↓reduceIte, go_sem]
    refine append_bytes E51 S51 canGrow (by simp; omega) (by simp [maxL]; omega) ?_
    simp -dsimp only [↓reduceIte, go_sem]
    refine ⟨?_, rfl, ?_⟩
    · rw [growFull]; exact Ext.growFull _ _ _
    · have : numS n = [UInt8.ofNat (Int.toNat 45)] ++ dg n.natAbs ++ [UInt8.ofNat (Int.toNat 59)] := by simp [numS, hneg]
      rw [this] at hK; exact hK
  · have hneg : ¬ n < 0 := by simpa using hb
    simp -dsimp only [↓reduceIte, go_sem]
    rw [show IntKind.u64.wrap n = ((n.natAbs : Nat) : Int) by rw [IntKind.wrap_u64]; omega]
    refine digits_c (l := []) _ (by omega) canFull (by simp) ?_
    simp -dsimp only [↓reduceIte, go_sem]
    refine build_byte E51 agg5 (by decide) (by decide) ?_
    simp -dsimp only [↓reduceIte, go_sem]
    refine append_bytes E51 S51 canGrow (by simp; omega) (by simp [maxL]; omega) ?_
    simp -dsimp only [↓reduceIte, go_sem]
    refine ⟨?_, rfl, ?_⟩
    · rw [growFull]; exact Ext.growFull _ _ _
    · have : numS n = dg n.natAbs ++ [UInt8.ofNat (Int.toNat 59)] := by simp [numS, hneg]
      rw [this] at hK; exact hK

theorem Digits_c : ∀ (n : Nat), n < 9223372036854775808 → ∀ {σ : AST} {K : AV → AST → Prop}, K (.str (dg n)) σ → TCalls Try.prog 64 [.int .i64 n] σ K := by
  intro n
  induction n using Nat.strongRecOn with
  | ind n ih =>
  intro hn σ K hK
  refine tcalls_walk Try.f64 _ [.tmp 2] Try.func64 rfl rfl rfl mixed (Nat.le_of_ble_eq_true rfl) rfl fun hlen => ?_
  simp -dsimp only [↓reduceIte, go_sem]
  refine boolW_split (fun hb => ?_) (fun hb => ?_)
  · have h10 : n < 10 := by simp at hb; omega
    simp -dsimp only [↓reduceIte, go_sem]
    rw [wrap_i64 (by omega) (by omega), wrap_u8 (by omega) (by omega)]
    refine build_byte E51 agg5 (by omega) (by omega) ?_
    simp -dsimp only [↓reduceIte, go_sem]
    rw [dg_small h10] at hK
    rw [show ((48 : Int) + (n : Int)).toNat = 48 + n by omega]
    exact hK
  · have h10 : ¬ n < 10 := by simp at hb; omega
    simp -dsimp only [↓reduceIte, go_sem]
    refine awp_drawS [0, 1, 3, 4, 5, 6, 7, 8, 2, 9, 10] (by kernel_rfl) ?_
    simp -dsimp only [↓reduceIte, go_sem]
    rw [show Int.tmod (n : Int) 10 = ((n % 10 : Nat) : Int) from tmod_nat n 10, wrap_i64 (n := 48 + _) (by omega) (by omega), wrap_u8 (by omega) (by omega)]
    refine build_byte E51 agg5 (by omega) (by omega) ?_
    simp -dsimp only [↓reduceIte, go_sem]
    rw [show Int.tdiv (n : Int) 10 = ((n / 10 : Nat) : Int) from tdiv_nat n 10, wrap_i64 (by omega) (by omega)]
    refine ih (n / 10) (by omega) (by omega) ?_
    simp -dsimp only [↓reduceIte, go_sem]
    have hd := dg_len20 (n := n / 10) (by omega)
    refine side_later (by simp [maxL]; omega) ?_
    simp -dsimp only [↓reduceIte, go_sem]
    rw [dg_big h10] at hK
    rw [show ((48 : Int) + ((n % 10 : Nat) : Int)).toNat = 48 + n % 10 by omega]
    exact hK

/-- The reference's digits of a number from 0 on. -/
theorem Digits_i {i : Int} (h0 : 0 ≤ i) (h1 : i ≤ 9223372036854775807) {σ : AST} {K : AV → AST → Prop} (hK : K (.str (dg i.toNat)) σ) : TCalls Try.prog 64 [.int .i64 i] σ K := by
  have := Digits_c i.toNat (by omega) hK
  rwa [Int.toNat_of_nonneg h0] at this

theorem Number_c {n : Int} (h0 : -9223372036854775808 ≤ n) (h1 : n ≤ 9223372036854775807) {σ : AST} {K : AV → AST → Prop} (hK : K (.str (numS n)) σ) : TCalls Try.prog 41 [.int .i64 n] σ K := by
  refine tcalls_walk Try.f41 _ [.tmp 2] Try.func41 rfl rfl rfl mixed (Nat.le_of_ble_eq_true rfl) rfl fun hlen => ?_
  have hd := dg_len20 (n := n.natAbs) (by omega)
  simp -dsimp only [↓reduceIte, go_sem]
  refine boolW_split (fun hb => ?_) (fun hb => ?_)
  · have hneg : 0 ≤ n := by simpa using hb
    simp -dsimp only [↓reduceIte, go_sem]
    refine Digits_i hneg h1 ?_
    rw [show n.toNat = n.natAbs by omega]
    simp -dsimp only [↓reduceIte, go_sem]
    refine side_later (by simp [maxL]; omega) ?_
    simp -dsimp only [↓reduceIte, go_sem]
    have : numS n = dg n.natAbs ++ [59] := by simp [numS]; omega
    rw [this] at hK; exact hK
  · have hneg : n < 0 := by simpa using hb
    have ht := tdiv10_neg (n := n) (by omega)
    have hm := tmod10_neg (n := n) (by omega)
    simp -dsimp only [↓reduceIte, go_sem]
    rw [wrap_i64 (n := n.tdiv 10) (by omega) (by omega)]
    refine boolW_split (fun hz => ?_) (fun hz => ?_)
    · have hz : n.tdiv 10 = 0 := by simpa using hz
      simp -dsimp only [↓reduceIte, go_sem]
      rw [wrap_i64 (by omega) (by omega)]
      refine Digits_i (by omega) (by omega) ?_
      rw [show (0 - n).toNat = n.natAbs by omega]
      simp -dsimp only [↓reduceIte, go_sem]
      refine side_later (by simp [maxL]; omega) ?_
      simp -dsimp only [↓reduceIte, go_sem]
      refine side_later (by simp [maxL]; omega) ?_
      simp -dsimp only [↓reduceIte, go_sem]
      have : numS n = 45 :: (dg n.natAbs ++ [59]) := by simp [numS, hneg]
      rw [this] at hK; exact hK
    · have hz : ¬ n.tdiv 10 = 0 := by simpa using hz
      simp -dsimp only [↓reduceIte, go_sem]
      rw [wrap_i64 (n := n.tdiv 10) (by omega) (by omega), wrap_i64 (by omega) (by omega)]
      refine Digits_i (by omega) (by omega) ?_
      have e1 : (0 - n.tdiv 10).toNat = n.natAbs / 10 := by omega
      have e2 : (0 - n.tmod 10).toNat = n.natAbs % 10 := by omega
      have hd2 := dg_len20 (n := n.natAbs / 10) (by omega)
      have hd3 := dg_len20 (n := n.natAbs % 10) (by omega)
      rw [e1]
      simp -dsimp only [↓reduceIte, go_sem]
      refine side_later (by simp [maxL]; omega) ?_
      simp -dsimp only [↓reduceIte, go_sem]
      rw [wrap_i64 (by omega) (by omega)]
      refine Digits_i (by omega) (by omega) ?_
      rw [e2]
      simp -dsimp only [↓reduceIte, go_sem]
      refine side_later (by simp [maxL]; omega) ?_
      simp -dsimp only [↓reduceIte, go_sem]
      refine side_later (by simp [maxL]; omega) ?_
      simp -dsimp only [↓reduceIte, go_sem]
      have h10 : ¬ n.natAbs < 10 := by omega
      have : numS n = 45 :: (dg (n.natAbs / 10) ++ (dg (n.natAbs % 10) ++ [59])) := by
        rw [dg_small (n := n.natAbs % 10) (by omega)]
        simp [numS, hneg]
        rw [dg_big h10]; simp
      rw [this] at hK
      simpa using hK

def textS (s : List UInt8) : List UInt8 := dg s.length ++ [58] ++ s

theorem text_c {s : List UInt8} {σ : AST} {K : AV → AST → Prop} (hK : K (if 16384 < s.length then .tuple [.str [], .int .i64 4] else .tuple [.str (textS s), .int .i64 0]) σ) : TCalls Try.prog 60 [.str s] σ K := by
  refine TCalls.drop ?_
  refine tcalls_walk Try.f60 _ [.tmp 2, .tmp 3] Try.func60 rfl rfl rfl mixed (Nat.le_of_ble_eq_true rfl) rfl fun hlen => ?_
  simp -dsimp only [↓reduceIte, go_sem]
  refine arr_intro fun _ => ?_
  simp -dsimp only [↓reduceIte, go_sem]
  refine boolW_split (fun hb => ?_) (fun hb => ?_)
  · have hb : 16384 < s.length := by simp at hb; omega
    rw [if_pos hb] at hK
    simp -dsimp only [↓reduceIte, go_sem]
    exact ⟨Ext.refl _, rfl, hK⟩
  · have hb : ¬ 16384 < s.length := by simp at hb; omega
    rw [if_neg hb] at hK
    have hd := dg_len20 (n := s.length) (by omega)
    simp -dsimp only [↓reduceIte, go_sem]
    refine arr_intro fun _ => ?_
    simp -dsimp only [↓reduceIte, go_sem]
    rw [wrap_u64 (by omega) (by omega)]
    refine digits_c (l := []) _ (by omega) canFull (by simp) ?_
    simp -dsimp only [↓reduceIte, go_sem]
    refine build_byte E51 agg5 (by decide) (by decide) ?_
    simp -dsimp only [↓reduceIte, go_sem]
    refine append_bytes E51 S51 canGrow (by simp; omega) (by simp [maxL]; omega) ?_
    simp -dsimp only [↓reduceIte, go_sem]
    refine side_later (by simp [maxL]; omega) ?_
    simp -dsimp only [↓reduceIte, go_sem]
    refine ⟨?_, rfl, ?_⟩
    · rw [growFull]; exact Ext.growFull _ _ _
    · exact hK

end Go.Aff.L01

/- Layer 1, walked: lists that are laid. -/
namespace Go.Aff.L01
open Go.Proofs Go.Aff
set_option linter.unusedVariables false
set_option maxRecDepth 20000
set_option linter.unusedSimpArgs false
theorem agg9 : aggT Try.prog 9 = some false := by kernel_rfl
theorem cells9 : Try.prog.cellsOf 9 = 1 := by kernel_rfl
theorem fits3 {v : AV} : fits Try.prog 3 v = (v.isAgg = false ∧ v.size = 1) := fits_leaf agg3 cells3
theorem fits9 {v : AV} : fits Try.prog 9 v = (v.isAgg = false ∧ v.size = 1) := fits_leaf agg9 cells9
attribute [local go_sem] Try.underlying3 Try.underlying4 Try.underlying5 Try.underlying9 Try.underlying52 Try.underlying120 Try.underlying34 Try.underlying31 fits3 fits9

theorem numbers1_c {n : Int} (h0 : -9223372036854775808 ≤ n) (h1 : n ≤ 9223372036854775807) {σ : AST} {K : AV → AST → Prop} (hK : K (.tuple [.str (numS n), .int .i64 0]) σ) : TCalls Try.prog 63 [.int .i64 n] σ K := by
  refine tcalls_walk Try.f63 _ [.tmp 2, .tmp 3] Try.func63 rfl rfl rfl mixed (Nat.le_of_ble_eq_true rfl) rfl fun hlen => ?_
  simp -dsimp only [↓reduceIte, go_sem]
  refine number_c h0 h1 ?_
  simp -dsimp only [↓reduceIte, go_sem]
  exact hK

theorem flat_len {α : Type} {f : α → List UInt8} {m : Nat} : ∀ {l : List α}, (∀ x ∈ l, (f x).length ≤ m) → (l.flatMap f).length ≤ l.length * m
  | [], h => by simp
  | x :: r, h => by
    have := flat_len (f := f) (m := m) (l := r) (fun y hy => h y (by simp [hy]))
    have h1 := h x (by simp)
    simp only [List.flatMap_cons, List.length_append, List.length_cons, Nat.add_mul]
    omega
theorem flat_take {α : Type} {f : α → List UInt8} {l : List α} {i : Nat} {x : α} (h : l[i]? = some x) : (l.take (i + 1)).flatMap f = (l.take i).flatMap f ++ f x := by
  rw [List.take_add_one, h]; simp

/-- What is laid when i items are. -/
def part {α : Type} (f : α → List UInt8) (l : List α) (i : Nat) : List UInt8 := 40 :: (l.take i).flatMap f
theorem part_zero {α : Type} {f : α → List UInt8} {l : List α} : part f l 0 = [40] := by simp [part]
theorem part_succ {α : Type} {f : α → List UInt8} {l : List α} {i : Nat} {x : α} (h : l[i]? = some x) : part f l (i + 1) = part f l i ++ f x := by simp [part, flat_take h]
theorem part_all {α : Type} {f : α → List UInt8} {l : List α} : part f l l.length = 40 :: l.flatMap f := by simp [part]
theorem part_len {α : Type} {f : α → List UInt8} {l : List α} {m i : Nat} (h : ∀ x ∈ l, (f x).length ≤ m) (hi : i ≤ l.length) : (part f l i).length ≤ 1 + l.length * m := by
  have := flat_len (f := f) (m := m) (l := l.take i) (fun x hx => h x (List.mem_of_mem_take hx))
  have h2 : (l.take i).length * m ≤ l.length * m := Nat.mul_le_mul_right m (by simp; omega)
  simp only [part, List.length_cons]; omega
def laidAll {α : Type} (f : α → List UInt8) (l : List α) : List UInt8 := part f l l.length ++ [41]

theorem listInt_c {l : List Int} (hl : ∀ n ∈ l, -9223372036854775808 ≤ n ∧ n ≤ 9223372036854775807) {tk0 : Tk} {σ : AST} {K : AV → AST → Prop}
    (hK : K (if 512 < l.length then .tuple [.str [], .int .i64 4] else .tuple [.str (laidAll numS l), .int .i64 0]) σ) : TCalls Try.prog 62 [.slice tk0 (l.map (AV.int .i64)), .fn (.func 63) [] []] σ K := by
  refine TCalls.drop ?_
  refine tcalls_walk Try.f62 _ [.tmp 4, .tmp 5] Try.func62 rfl rfl rfl mixed (Nat.le_of_ble_eq_true rfl) rfl fun hlen => ?_
  have hs : l.length ≤ 9223372036854775807 := by
    have := hlen (.slice tk0 (l.map (AV.int .i64))) (by simp)
    simp only [lenOk, List.length_map, maxL] at this; exact this
  refine awp_seq_k fun KA hKA => ?_
  simp -dsimp only [↓reduceIte, go_sem]
  refine hKA _ _ ?_
  simp -dsimp only [↓reduceIte, go_sem]
  refine arr_intro fun _ => ?_
  simp only [List.length_map]
  simp -dsimp only [↓reduceIte, go_sem]
  refine boolW_split (fun hb => ?_) (fun hb => ?_)
  · have hb : 512 < l.length := by simp at hb; omega
    rw [if_pos hb] at hK
    simp -dsimp only [↓reduceIte, go_sem]
    exact ⟨Ext.refl _, rfl, hK⟩
  · have hb : ¬ 512 < l.length := by simp at hb; omega
    rw [if_neg hb] at hK
    simp -dsimp only [↓reduceIte, go_sem]
    refine build_byte E51 agg5 (by decide) (by decide) ?_
    simp -dsimp only [↓reduceIte, go_sem]
    refine arr_intro fun _ => ?_
    simp only [List.length_map]
    simp -dsimp only [↓reduceIte, go_sem]
    refine awp_rounds (fun (i : Nat) τ s => i ≤ l.length ∧ Ext σ s ∧ τ 1 = .fn (.func 63) [] [] ∧ τ 15 = .slice tk0 (l.map (AV.int .i64)) ∧ τ 16 = .int .i64 l.length ∧ τ 17 = .int .i64 i ∧
      ∃ tk, tkNew σ tk ∧ canApp s tk (part numS l i).length 1 ∧ τ 6 = .slice tk (u8s (part numS l i))) (fun i => l.length - i) 0 ?_ ?_
    · refine ⟨by omega, Ext.refl _, ?_, ?_, ?_, ?_, .full, .inl rfl, trivial, ?_⟩ <;> simp only [go_sem] <;> first | rfl | (rw [part_zero]; rfl)
    · rintro i τ s ⟨hi, hx, t1, t15, t16, t17, tk, htk, hcan, t6⟩
      have hcat := part_len (f := numS) (l := l) (m := 22) (i := i) (fun x hx => numS_len (hl x hx).1 (hl x hx).2) hi
      simp -dsimp only [↓reduceIte, go_sem, t1, t6, t15, t16, t17]
      refine boolW_split (fun h1 => ?_) (fun h1 => ?_)
      · have h1 : i < l.length := by simp at h1; omega
        obtain ⟨n, hn⟩ := get_lt h1
        have hr := hl n (List.mem_iff_getElem?.2 ⟨i, hn⟩)
        simp -dsimp only [↓reduceIte, go_sem, t1, t6, t15, t16, t17]
        refine nth_get hn ?_
        simp -dsimp only [↓reduceIte, go_sem, t1, t6, t15, t16, t17]
        refine numbers1_c hr.1 hr.2 ?_
        simp -dsimp only [↓reduceIte, go_sem, t1, t6, t15, t16, t17]
        have hnl := numS_len hr.1 hr.2
        refine append_text E51 Try.underlying9 hcan (by omega) (by simp only [maxL]; omega) ?_
        simp -dsimp only [↓reduceIte, go_sem, t1, t6, t15, t16, t17]
        rw [wrap_i64 (by omega) (by omega)]
        refine later_intro ⟨i + 1, by omega, ?_⟩
        rw [part_succ hn, List.length_append]
        refine ⟨by omega, hx.grow htk, ?_, ?_, ?_, ?_, growT s tk, htk.grow hx, canApp_grow hcan, ?_⟩ <;> simp only [go_sem, t1, t15, t16, t17] <;> rfl
      · have h1 : i = l.length := by simp at h1; omega
        subst h1
        simp -dsimp only [↓reduceIte, go_sem, t1, t6, t15, t16, t17]
        refine build_byte E51 agg5 (by decide) (by decide) ?_
        simp -dsimp only [↓reduceIte, go_sem, t1, t6, t15, t16, t17]
        refine append_bytes E51 S51 hcan (by simp; omega) (by simp [maxL]; omega) ?_
        simp -dsimp only [↓reduceIte, go_sem, t1, t6, t15, t16, t17]
        exact ⟨hx.grow htk, rfl, hK⟩

theorem numbers_c {l : List Int} (hl : ∀ n ∈ l, -9223372036854775808 ≤ n ∧ n ≤ 9223372036854775807) {tk0 : Tk} {σ : AST} {K : AV → AST → Prop}
    (hK : K (if 512 < l.length then .tuple [.str [], .int .i64 4] else .tuple [.str (laidAll numS l), .int .i64 0]) σ) : TCalls Try.prog 29 [.slice tk0 (l.map (AV.int .i64))] σ K := by
  refine tcalls_walk Try.f29 _ [.tmp 2, .tmp 3] Try.func29 rfl rfl rfl mixed (Nat.le_of_ble_eq_true rfl) rfl fun hlen => ?_
  simp -dsimp only [↓reduceIte, go_sem]
  refine listInt_c hl ?_
  split
  · rename_i h
    rw [if_pos h] at hK
    simp -dsimp only [↓reduceIte, go_sem]
    exact hK
  · rename_i h
    rw [if_neg h] at hK
    simp -dsimp only [↓reduceIte, go_sem]
    exact hK
end Go.Aff.L01

/- Layer 1, walked: lists of texts that are laid; begins. -/
namespace Go.Aff.L01
open Go.Proofs Go.Aff
set_option linter.unusedVariables false
set_option maxRecDepth 20000
set_option linter.unusedSimpArgs false
attribute [local go_sem] Try.underlying3 Try.underlying4 Try.underlying5 Try.underlying9 Try.underlying52 Try.underlying120 Try.underlying34 Try.underlying31 fits3 fits9

theorem textS_len {s : List UInt8} (h : ¬ 16384 < s.length) : (textS s).length ≤ 16405 := by
  have := dg_len20 (n := s.length) (by omega)
  simp [textS]; omega

/-- What texts come to. -/
def textsR (l : List (List UInt8)) : AV :=
  if 512 < l.length ∨ ∃ s ∈ l, 16384 < s.length then .tuple [.str [], .int .i64 4] else .tuple [.str (laidAll textS l), .int .i64 0]

theorem part_len' {α : Type} {f : α → List UInt8} {l : List α} {m i : Nat} (h : ∀ x ∈ l.take i, (f x).length ≤ m) (hi : i ≤ l.length) : (part f l i).length ≤ 1 + l.length * m := by
  have := flat_len (f := f) (m := m) (l := l.take i) h
  have h2 : (l.take i).length * m ≤ l.length * m := Nat.mul_le_mul_right m (by simp; omega)
  simp only [part, List.length_cons]; omega

end Go.Aff.L01

/- Layer 1: digits that are read. Plain. -/
namespace Go.Aff.L01
open Go.Aff

def isD (b : UInt8) : Bool := decide (48 ≤ b.toNat) && decide (b.toNat ≤ 57)
def val (l : List UInt8) : Nat := l.foldl (fun a b => a * 10 + (b.toNat - 48)) 0
def digs (s : List UInt8) (p : Nat) : List UInt8 := (s.drop p).takeWhile isD
def dend (s : List UInt8) (p : Nat) : Nat := p + (digs s p).length

theorem val_snoc (l : List UInt8) (b : UInt8) : val (l ++ [b]) = val l * 10 + (b.toNat - 48) := by simp [val, List.foldl_append]
theorem val_take_succ {l : List UInt8} {k : Nat} {b : UInt8} (h : l[k]? = some b) : val (l.take (k + 1)) = val (l.take k) * 10 + (b.toNat - 48) := by
  rw [← val_snoc, List.take_add_one, h]; rfl

theorem takeWhile_at {p : UInt8 → Bool} : ∀ (l : List UInt8) (k : Nat), k ≤ (l.takeWhile p).length → (k < (l.takeWhile p).length ↔ ∃ b, l[k]? = some b ∧ p b = true)
  | [], k, h => by simp
  | b :: l, k, h => by
    by_cases hb : p b = true
    · rw [List.takeWhile_cons_of_pos hb] at h ⊢
      cases k with
      | zero => simp [hb]
      | succ k => simpa using takeWhile_at l k (by simpa using h)
    · rw [List.takeWhile_cons_of_neg hb] at h ⊢
      simp at h; subst h; simp [hb]
theorem takeWhile_get {p : UInt8 → Bool} : ∀ (l : List UInt8) (k : Nat), k < (l.takeWhile p).length → (l.takeWhile p)[k]? = l[k]?
  | [], k, h => by simp at h
  | b :: l, k, h => by
    by_cases hb : p b = true
    · rw [List.takeWhile_cons_of_pos hb] at h ⊢
      cases k with
      | zero => rfl
      | succ k => simpa using takeWhile_get l k (by simpa using h)
    · rw [List.takeWhile_cons_of_neg hb] at h; simp at h

theorem digs_at {s : List UInt8} {p k : Nat} (h : k ≤ (digs s p).length) : k < (digs s p).length ↔ ∃ b, s[p + k]? = some b ∧ isD b = true := by
  have := takeWhile_at (p := isD) (s.drop p) k h
  simpa [digs, List.getElem?_drop] using this
theorem digs_get {s : List UInt8} {p k : Nat} (h : k < (digs s p).length) : (digs s p)[k]? = s[p + k]? := by
  have := takeWhile_get (p := isD) (s.drop p) k h
  simpa [digs, List.getElem?_drop] using this
theorem digs_le (s : List UInt8) (p : Nat) : (digs s p).length ≤ s.length - p := by
  have := (List.takeWhile_sublist isD (l := s.drop p)).length_le
  simpa [digs] using this
theorem dend_le {s : List UInt8} {p : Nat} (h : p ≤ s.length) : dend s p ≤ s.length := by
  have := digs_le s p; unfold dend; omega

/-- The byte at a place. -/
def bAt (s : List UInt8) (i : Nat) : Nat := ((s[i]?).getD 0).toNat
theorem bAt_of {s : List UInt8} {i : Nat} {b : UInt8} (h : s[i]? = some b) : bAt s i = b.toNat := by simp [bAt, h]

def shapeS (s : List UInt8) (p e : Nat) (last : Nat) : Int :=
  if e = s.length then 5 else if e = p ∨ bAt s e ≠ last ∨ (1 < e - p ∧ bAt s p = 48) then 6 else 0

def numT (s : List UInt8) (low : Bool) (q most : Nat) : Int × Int × Int :=
  if shapeS s q (dend s q) 59 ≠ 0 then (0, 0, shapeS s q (dend s q) 59) else
  if low = true ∧ dend s q = q + 1 ∧ bAt s q = 48 then (0, 0, 6) else
  if most < val (digs s q) then (0, 0, 4) else
  (if low then -(val (digs s q) : Int) else (val (digs s q) : Int), (dend s q : Int) + 1, 0)
def lowB (s : List UInt8) (p : Nat) : Bool := decide (p < s.length) && decide (bAt s p = 45)
def numP (s : List UInt8) (p : Nat) : Int × Int × Int := numT s (lowB s p) (if lowB s p then p + 1 else p) (if lowB s p then 9223372036854775808 else 9223372036854775807)

/-- What reading a number comes to: the number, the place behind it, what was wrong. -/
def numR (s : List UInt8) (i : Int) : Int × Int × Int := if i < 0 ∨ (s.length : Int) < i then (0, 0, 3) else numP s i.toNat

/-- Three results. -/
def tup3 (x : Int × Int × Int) : AV := .tuple [.int .i64 x.1, .int .i64 x.2.1, .int .i64 x.2.2]
theorem tup3_of {a b c : Int} : tup3 (a, b, c) = .tuple [.int .i64 a, .int .i64 b, .int .i64 c] := rfl

end Go.Aff.L01

/- Layer 1, walked: digits that are read. -/
namespace Go.Aff.L01
open Go.Proofs Go.Aff
set_option linter.unusedVariables false
set_option maxRecDepth 20000
set_option linter.unusedSimpArgs false
attribute [local go_sem] Try.underlying3 Try.underlying4 Try.underlying5 Try.underlying9 Try.underlying52 Try.underlying120 Try.underlying34

theorem run_c {s : List UInt8} {p : Nat} (hp : p ≤ s.length) {most : Nat} (hm9 : 9 ≤ most) (hm : most < 18446744073709551616) {σ : AST} {K : AV → AST → Prop}
    (hK : K (.tuple [.int .i64 (dend s p : Nat), .int .u64 (val (digs s p) % 18446744073709551616 : Nat), .bool (decide (val (digs s p) ≤ most))]) σ) : TCalls Try.prog 85 [.str s, .int .i64 p, .int .u64 most] σ K := by
  refine tcalls_walk Try.f85 _ [.tmp 6, .tmp 7, .tmp 8] Try.func85 rfl rfl rfl mixed (Nat.le_of_ble_eq_true rfl) rfl fun hlen => ?_
  have hs : s.length ≤ 9223372036854775807 := hlen (.str s) (by simp)
  have hde := dend_le hp
  have hdd : dend s p = p + (digs s p).length := rfl
  generalize hD : digs s p = D at *
  generalize hE : dend s p = E at *
  simp -dsimp only [↓reduceIte, go_sem]
  refine awp_loop_of (fun (k : Nat) τ s' => s' = σ ∧ τ 0 = .str s ∧ τ 2 = .int .u64 most ∧ τ 1 = .int .i64 (p + k : Nat) ∧ k ≤ D.length ∧ τ 9 = .int .u64 (val (D.take k) % 18446744073709551616 : Nat) ∧ τ 10 = .bool (decide (val (D.take k) ≤ most))) (fun k => D.length - k) 0 ?_ ?_
  · simp [go_sem, val]
  · rintro k τ s' ⟨rfl, h0, h2, h1, hk, h9, h10⟩
    have hat := digs_at (s := s) (p := p) (k := k) (by rw [hD]; exact hk)
    rw [hD] at hat
    have fin : k = D.length → K (.tuple [.int .i64 (p + k : Nat), .int .u64 (val (D.take k) % 18446744073709551616 : Nat), .bool (decide (val (D.take k) ≤ most))]) s' := by
      intro e; subst e; rw [List.take_length]; rw [hdd] at hK; exact hK
    simp -dsimp only [↓reduceIte, go_sem, h0, h1, h2, h9, h10]
    refine arr_intro fun _ => ?_
    simp -dsimp only [↓reduceIte, go_sem, h0, h1, h2, h9, h10]
    have hfin0 : s.length ≤ p + k → k = D.length := fun h => by
      have : ¬ k < D.length := fun hlt => by
        obtain ⟨b, hb, _⟩ := hat.1 hlt
        have := (List.getElem?_eq_some_iff.1 hb).1; omega
      omega
    have hfin1 : ∀ b, s[p + k]? = some b → ¬ (48 ≤ b.toNat ∧ b.toNat ≤ 57) → k = D.length := fun b hb hn => by
      have : ¬ k < D.length := fun hlt => by
        obtain ⟨b', hb', hd⟩ := hat.1 hlt
        rw [hb] at hb'; cases hb'
        simp [isD] at hd; exact hn hd
      omega
    refine guardV_split (fun hb => ?_) (fun hb => ?_) <;> (try rw [hb])
    · obtain ⟨b, hbi⟩ := get_lt (l := s) (i := p + k) (by simp at hb; omega)
      simp -dsimp only [↓reduceIte, go_sem, h0, h1, h2, h9, h10]
      refine nth_get hbi ?_
      simp -dsimp only [↓reduceIte, go_sem, h0, h1, h2, h9, h10]
      refine guardV_split (fun hb1 => ?_) (fun hb1 => ?_) <;> (try rw [hb1])
      · simp -dsimp only [↓reduceIte, go_sem, h0, h1, h2, h9, h10]
        refine nth_get hbi ?_
        simp -dsimp only [↓reduceIte, go_sem, h0, h1, h2, h9, h10]
        refine boolW_split (fun hb2 => ?_) (fun hb2 => ?_)
        · simp at hb1 hb2
          have hlt : k < D.length := hat.2 ⟨b, hbi, by simp [isD]; omega⟩
          have hDk : D[k]? = some b := by rw [← hD, digs_get (by rw [hD]; exact hlt)]; exact hbi
          have hval := val_take_succ hDk
          simp -dsimp only [↓reduceIte, go_sem, h0, h1, h2, h9, h10]
          refine nth_get hbi ?_
          simp -dsimp only [↓reduceIte, go_sem, h0, h1, h2, h9, h10]
          rw [show IntKind.u64.wrap (IntKind.u8.wrap ((b.toNat : Int) - 48)) = ((b.toNat - 48 : Nat) : Int) by rw [wrap_u8 (by omega) (by omega), wrap_u64 (by omega) (by omega)]; omega]
          rw [show IntKind.u64.wrap ((most : Int) - ((b.toNat - 48 : Nat) : Int)) = ((most - (b.toNat - 48) : Nat) : Int) by rw [wrap_u64 (by omega) (by omega)]; omega]
          rw [show Int.tdiv ((most - (b.toNat - 48) : Nat) : Int) 10 = (((most - (b.toNat - 48)) / 10 : Nat) : Int) from tdiv_nat _ 10]
          rw [wrap_u64 (n := (((most - (b.toNat - 48)) / 10 : Nat) : Int)) (by omega) (by omega)]
          have hnew : IntKind.u64.wrap (IntKind.u64.wrap (((val (D.take k) % 18446744073709551616 : Nat) : Int) * 10) + ((b.toNat - 48 : Nat) : Int)) = ((val (D.take (k + 1)) % 18446744073709551616 : Nat) : Int) := by
            rw [IntKind.wrap_u64, IntKind.wrap_u64, hval]; omega
          have hpk : IntKind.i64.wrap (((p + k : Nat) : Int) + 1) = ((p + (k + 1) : Nat) : Int) := by rw [wrap_i64 (by omega) (by omega)]; omega
          refine boolW_split (fun hc => ?_) (fun hc => ?_)
          · simp -dsimp only [↓reduceIte, go_sem, h0, h1, h2, h9, h10]
            refine ⟨_, ?_, k + 1, ?_, rfl⟩
            · omega
            · simp at hc
              have hbig : ¬ val (D.take (k + 1)) ≤ most := by
                rw [hval]
                by_cases hv : val (D.take k) ≤ most
                · rw [show ((val (D.take k) : Nat) : Int) % 18446744073709551616 = ((val (D.take k) : Nat) : Int) by omega] at hc; clear hnew hpk hval; omega
                · clear hnew hpk hval hc; omega
              rw [hnew, hpk]
              simp only [go_sem, h0, h2]
              refine ⟨by omega, ?_⟩
              simp [hbig]
          · simp -dsimp only [↓reduceIte, go_sem, h0, h1, h2, h9, h10]
            refine ⟨_, ?_, k + 1, ?_, rfl⟩
            · omega
            · simp at hc
              have hbig : val (D.take (k + 1)) ≤ most ↔ val (D.take k) ≤ most := by
                rw [hval]
                by_cases hv : val (D.take k) ≤ most
                · rw [show ((val (D.take k) : Nat) : Int) % 18446744073709551616 = ((val (D.take k) : Nat) : Int) by omega] at hc; clear hnew hpk hval; omega
                · clear hnew hpk hval hc; omega
              rw [hnew, hpk]
              simp only [go_sem, h0, h2, h10]
              refine ⟨by omega, ?_⟩
              simp [hbig]
        · simp -dsimp only [↓reduceIte, go_sem, h0, h1, h2, h9, h10]
          exact fin (hfin1 b hbi (by simp at hb2; omega))
      · simp -dsimp only [↓reduceIte, go_sem, h0, h1, h2, h9, h10]
        exact fin (hfin1 b hbi (by simp at hb1; omega))
    · simp -dsimp only [↓reduceIte, go_sem, h0, h1, h2, h9, h10]
      exact fin (hfin0 (by simp at hb; omega))
end Go.Aff.L01

/- Layer 1, walked: a number that is read. -/
namespace Go.Aff.L01
open Go.Proofs Go.Aff
set_option linter.unusedVariables false
set_option maxRecDepth 20000
set_option linter.unusedSimpArgs false
attribute [local go_sem] Try.underlying3 Try.underlying4 Try.underlying5 Try.underlying9 Try.underlying52 Try.underlying120 Try.underlying34

theorem shape_c {s : List UInt8} {p e last : Nat} (hp : p ≤ e) (he : e ≤ s.length) {σ : AST} {K : AV → AST → Prop} (hK : K (.int .i64 (shapeS s p e last)) σ) : TCalls Try.prog 86 [.str s, .int .i64 p, .int .i64 e, .int .u8 last] σ K := by
  refine tcalls_walk Try.f86 _ [.tmp 8] Try.func86 rfl rfl rfl mixed (Nat.le_of_ble_eq_true rfl) rfl fun hlen => ?_
  have hs : s.length ≤ 9223372036854775807 := hlen (.str s) (by simp)
  unfold shapeS at hK
  simp -dsimp only [↓reduceIte, go_sem]
  refine arr_intro fun _ => ?_
  simp -dsimp only [↓reduceIte, go_sem]
  refine boolW_split (fun hb => ?_) (fun hb => ?_)
  · have hb : e = s.length := by simp at hb; omega
    rw [if_pos hb] at hK
    simp -dsimp only [↓reduceIte, go_sem]
    exact hK
  · have hb : ¬ e = s.length := by simp at hb; omega
    rw [if_neg hb] at hK
    obtain ⟨be, hbe⟩ := get_lt (l := s) (i := e) (by omega)
    rw [bAt_of hbe] at hK
    simp -dsimp only [↓reduceIte, go_sem]
    refine guardV_split (fun h1 => ?_) (fun h1 => ?_) <;> (try rw [h1])
    · have h1 : ¬ e = p := by simp at h1; omega
      obtain ⟨bp, hbp⟩ := get_lt (l := s) (i := p) (by omega)
      rw [bAt_of hbp] at hK
      simp -dsimp only [↓reduceIte, go_sem]
      refine nth_get hbe ?_
      simp -dsimp only [↓reduceIte, go_sem]
      refine guardV_split (fun h2 => ?_) (fun h2 => ?_) <;> (try rw [h2])
      · have h2 : be.toNat = last := by simp at h2; omega
        simp -dsimp only [↓reduceIte, go_sem]
        rw [wrap_i64 (by omega) (by omega)]
        refine guardV_split (fun h3 => ?_) (fun h3 => ?_) <;> (try rw [h3])
        · have h3 : 1 < e - p := by simp at h3; omega
          simp -dsimp only [↓reduceIte, go_sem]
          refine nth_get hbp ?_
          simp -dsimp only [↓reduceIte, go_sem]
          refine boolW_split (fun h4 => ?_) (fun h4 => ?_)
          · have h4 : bp.toNat = 48 := by simp at h4; omega
            rw [if_pos (.inr (.inr ⟨h3, h4⟩))] at hK
            simp -dsimp only [↓reduceIte, go_sem]
            exact hK
          · have h4 : ¬ bp.toNat = 48 := by simp at h4; omega
            rw [if_neg (by omega)] at hK
            simp -dsimp only [↓reduceIte, go_sem]
            exact hK
        · have h3 : ¬ 1 < e - p := by simp at h3; omega
          rw [if_neg (by omega)] at hK
          simp -dsimp only [↓reduceIte, go_sem]
          exact hK
      · have h2 : ¬ be.toNat = last := by simp at h2; omega
        rw [if_pos (.inr (.inl h2))] at hK
        simp -dsimp only [↓reduceIte, go_sem]
        exact hK
    · have h1 : e = p := by simp at h1; omega
      rw [if_pos (.inl h1)] at hK
      simp -dsimp only [↓reduceIte, go_sem]
      exact hK

theorem shape_ok {s : List UInt8} {p e last : Nat} (h : shapeS s p e last = 0) (he : e ≤ s.length) : e < s.length ∧ e ≠ p := by
  unfold shapeS at h
  split at h
  · cases h
  · split at h
    · cases h
    · omega

theorem readNumber_c {s : List UInt8} {i : Int} (hi0 : -9223372036854775808 ≤ i) (hi1 : i ≤ 9223372036854775807) {σ : AST} {K : AV → AST → Prop}
    (hK : K (tup3 (numR s i)) σ) : TCalls Try.prog 66 [.str s, .int .i64 i] σ K := by
  refine tcalls_walk Try.f66 _ [.tmp 4, .tmp 5, .tmp 6] Try.func66 rfl rfl rfl mixed (Nat.le_of_ble_eq_true rfl) rfl fun hlen => ?_
  have hs : s.length ≤ 9223372036854775807 := hlen (.str s) (by simp)
  refine awp_seq_k fun KA hKA => ?_
  simp -dsimp only [↓reduceIte, go_sem]
  refine hKA _ _ (awp_seq_k fun KB hKB => ?_)
  have go : ∀ τ : Env, τ 0 = .str s → τ 1 = .int .i64 i → ¬ (i < 0 ∨ (s.length : Int) < i) → KB τ σ := by
    intro τ t0 t1 hok
    have hi : (i.toNat : Int) = i := by omega
    rw [numR, if_neg hok] at hK
    generalize hp : i.toNat = p at hi hK
    have hpl : p ≤ s.length := by omega
    rw [← hi] at t1
    refine hKB _ _ (awp_seq_k fun KC hKC => ?_)
    simp -dsimp only [↓reduceIte, go_sem, t0, t1]
    refine hKC _ _ (awp_seq_k fun KD hKD => ?_)
    rw [numP] at hK
    have tail : ∀ τ : Env, τ 0 = .str s → τ 1 = .int .i64 p → τ 7 = .int .u64 9223372036854775807 → τ 8 = .bool (lowB s p) → KD τ σ := by
      intro τ t0 t1 t7 t8
      refine hKD _ _ (awp_seq_k fun KE hKE => ?_)
      have hlp : lowB s p = true → p < s.length := fun h => by simp [lowB] at h; exact h.1
      generalize hlow : lowB s p = low at *
      have tail2 : ∀ (τ : Env) (q most : Nat), q = (if low then p + 1 else p) → most = (if low then 9223372036854775808 else 9223372036854775807) → τ 0 = .str s → τ 1 = .int .i64 q → τ 7 = .int .u64 most → τ 8 = .bool low → KE τ σ := by
        intro τ q most hq hmost t0 t1 t7 t8
        have hql : q ≤ s.length := by
          rw [hq]; split
          · rename_i h; have := hlp h; omega
          · exact hpl
        have hm1 : 9 ≤ most ∧ most ≤ 9223372036854775808 ∧ (low = false → most ≤ 9223372036854775807) := by rw [hmost]; cases low <;> simp
        have hel := dend_le hql
        have heq : q ≤ dend s q := by unfold dend; omega
        rw [← hq, ← hmost, numT] at hK
        refine hKE _ _ ?_
        simp -dsimp only [↓reduceIte, go_sem, t0, t1, t7, t8]
        refine run_c hql hm1.1 (by omega) ?_
        simp -dsimp only [↓reduceIte, go_sem, t0, t1, t7, t8]
        refine shape_c (last := 59) heq hel ?_
        generalize hval : val (digs s q) = v at *
        generalize hee : dend s q = e at *
        generalize hsh : shapeS s q e 59 = sh at *
        simp -dsimp only [↓reduceIte, go_sem, t0, t1, t7, t8]
        refine boolW_split (fun h1 => ?_) (fun h1 => ?_)
        · have h1 : sh ≠ 0 := by simp at h1; exact h1
          rw [if_pos h1] at hK
          simp -dsimp only [↓reduceIte, go_sem, t0, t1, t7, t8]
          exact hK
        · have h1 : sh = 0 := by simp at h1; exact h1
          rw [if_neg (by simp [h1])] at hK
          rw [h1] at hsh
          have hlt := shape_ok hsh hel
          obtain ⟨bq, hbq⟩ := get_lt (l := s) (i := q) (by omega)
          have hbq' := bAt_of hbq
          have big : ¬ v ≤ most → ¬ (low = true ∧ e = q + 1 ∧ bAt s q = 48) → K (tup3 (0, 0, 4)) σ := fun h h2 => by
            rw [if_neg h2, if_pos (by omega)] at hK; exact hK
          have fine : v ≤ most → ¬ (low = true ∧ e = q + 1 ∧ bAt s q = 48) → K (tup3 (if low then -(v : Int) else (v : Int), (e : Int) + 1, 0)) σ := fun h h2 => by
            rw [if_neg h2, if_neg (by omega)] at hK; exact hK
          cases low with
          | false =>
            simp -dsimp only [↓reduceIte, go_sem, t0, t1, t7, t8]
            refine boolW_split (fun h2 => ?_) (fun h2 => ?_)
            · have h2 : ¬ v ≤ most := by simp at h2; omega
              simp -dsimp only [↓reduceIte, go_sem, t0, t1, t7, t8]
              exact big h2 (by simp)
            · have h2 : v ≤ most := by simp at h2; omega
              have := hm1.2.2 rfl
              simp -dsimp only [↓reduceIte, go_sem, t0, t1, t7, t8]
              have h3 := fine h2 (by simp)
              rw [wrap_i64 (by omega) (by omega), wrap_i64 (by omega) (by omega)]
              rw [show v % 18446744073709551616 = v by omega]
              exact h3
          | true =>
            simp -dsimp only [↓reduceIte, go_sem, t0, t1, t7, t8]
            rw [wrap_i64 (by omega) (by omega)]
            refine guardV_split (fun h2 => ?_) (fun h2 => ?_) <;> (try rw [h2])
            · have h2 : e = q + 1 := by simp at h2; omega
              simp -dsimp only [↓reduceIte, go_sem, t0, t1, t7, t8]
              refine nth_get hbq ?_
              simp -dsimp only [↓reduceIte, go_sem, t0, t1, t7, t8]
              refine boolW_split (fun h3 => ?_) (fun h3 => ?_)
              · have h3 : bq.toNat = 48 := by simp at h3; omega
                rw [if_pos ⟨rfl, h2, by rw [hbq']; exact h3⟩] at hK
                simp -dsimp only [↓reduceIte, go_sem, t0, t1, t7, t8]
                exact hK
              · have h3 : ¬ bq.toNat = 48 := by simp at h3; omega
                have hno : ¬ (true = true ∧ e = q + 1 ∧ bAt s q = 48) := by rw [hbq']; simp [h3]
                simp -dsimp only [↓reduceIte, go_sem, t0, t1, t7, t8]
                refine boolW_split (fun h4 => ?_) (fun h4 => ?_)
                · have h4 : ¬ v ≤ most := by simp at h4; omega
                  simp -dsimp only [↓reduceIte, go_sem, t0, t1, t7, t8]
                  exact big h4 hno
                · have h4 : v ≤ most := by simp at h4; omega
                  simp -dsimp only [↓reduceIte, go_sem, t0, t1, t7, t8]
                  have h5 := fine h4 hno
                  rw [wrap_i64 (n := (e : Int) + 1) (by omega) (by omega)]
                  rw [show IntKind.i64.wrap (IntKind.u64.wrap (0 - ((v % 18446744073709551616 : Nat) : Int))) = -(v : Int) by rw [IntKind.wrap_i64, IntKind.wrap_u64]; omega]
                  exact h5
            · have h2 : ¬ e = q + 1 := by simp at h2; omega
              have hno : ¬ (true = true ∧ e = q + 1 ∧ bAt s q = 48) := by simp [h2]
              simp -dsimp only [↓reduceIte, go_sem, t0, t1, t7, t8]
              refine boolW_split (fun h4 => ?_) (fun h4 => ?_)
              · have h4 : ¬ v ≤ most := by simp at h4; omega
                simp -dsimp only [↓reduceIte, go_sem, t0, t1, t7, t8]
                exact big h4 hno
              · have h4 : v ≤ most := by simp at h4; omega
                simp -dsimp only [↓reduceIte, go_sem, t0, t1, t7, t8]
                have h5 := fine h4 hno
                rw [wrap_i64 (n := (e : Int) + 1) (by omega) (by omega)]
                rw [show IntKind.i64.wrap (IntKind.u64.wrap (0 - ((v % 18446744073709551616 : Nat) : Int))) = -(v : Int) by rw [IntKind.wrap_i64, IntKind.wrap_u64]; omega]
                exact h5
      simp -dsimp only [↓reduceIte, go_sem, t0, t1, t7, t8]
      cases low with
      | false =>
        simp -dsimp only [↓reduceIte, go_sem, t0, t1, t7, t8]
        refine tail2 _ p _ rfl rfl ?_ ?_ ?_ ?_ <;> simp only [go_sem, t0, t1, t7, t8]
        rfl
      | true =>
        have := hlp rfl
        simp -dsimp only [↓reduceIte, go_sem, t0, t1, t7, t8]
        rw [wrap_i64 (by omega) (by omega), wrap_u64 (by omega) (by omega)]
        refine tail2 _ (p + 1) _ rfl rfl ?_ ?_ ?_ ?_ <;> simp only [go_sem, t0, t1, t7, t8]
        · rfl
        · rfl
    simp -dsimp only [↓reduceIte, go_sem, t0, t1]
    refine arr_intro fun _ => ?_
    simp -dsimp only [↓reduceIte, go_sem, t0, t1]
    refine guardV_split (fun h1 => ?_) (fun h1 => ?_) <;> (try rw [h1])
    · have h1 : p < s.length := by simp at h1; omega
      obtain ⟨b, hb⟩ := get_lt h1
      simp -dsimp only [↓reduceIte, go_sem, t0, t1]
      refine nth_get hb ?_
      simp -dsimp only [↓reduceIte, go_sem, t0, t1]
      refine tail _ ?_ ?_ ?_ ?_ <;> simp only [go_sem, t0, t1]
      congr 1
      rw [lowB, bAt_of hb, Bool.eq_iff_iff]
      simp [h1]
      omega
    · have h1 : ¬ p < s.length := by simp at h1; omega
      simp -dsimp only [↓reduceIte, go_sem, t0, t1]
      refine tail _ ?_ ?_ ?_ ?_ <;> simp only [go_sem, t0, t1]
      simp [lowB, h1]
  have bad : i < 0 ∨ (s.length : Int) < i → K (tup3 (0, 0, 3)) σ := fun h => by
    rw [numR, if_pos h] at hK; exact hK
  simp -dsimp only [↓reduceIte, go_sem]
  refine guardV_split (fun h1 => ?_) (fun h1 => ?_) <;> (try rw [h1])
  · have h1 : ¬ i < 0 := by simpa using h1
    simp -dsimp only [↓reduceIte, go_sem]
    refine arr_intro fun _ => ?_
    simp -dsimp only [↓reduceIte, go_sem]
    refine boolW_split (fun h2 => ?_) (fun h2 => ?_)
    · have h2 : (s.length : Int) < i := by simpa using h2
      simp -dsimp only [↓reduceIte, go_sem]
      exact bad (.inr h2)
    · have h2 : ¬ (s.length : Int) < i := by simpa using h2
      simp -dsimp only [↓reduceIte, go_sem]
      refine go _ ?_ ?_ (by omega) <;> simp only [go_sem]
  · have h1 : i < 0 := by simpa using h1
    simp -dsimp only [↓reduceIte, go_sem]
    exact bad (.inl h1)
end Go.Aff.L01

/- Layer 1, walked: awake; LayNumbers. -/
namespace Go.Aff.L01
open Go.Proofs Go.Aff
set_option linter.unusedVariables false
set_option maxRecDepth 20000
set_option linter.unusedSimpArgs false
attribute [local go_sem] Try.underlying3 Try.underlying4 Try.underlying5 Try.underlying9 Try.underlying52 Try.underlying120 Try.underlying34 Try.underlying31 fits3 fits9

theorem num_m40 : numS (-40) = [45, 52, 48, 59] := by
  unfold numS; rw [show (-40 : Int).natAbs = 40 from rfl, dg_big (by decide), dg_small (by decide)]; rfl
theorem num_1 : numS 1 = [49, 59] := by
  unfold numS; rw [show (1 : Int).natAbs = 1 from rfl, dg_small (by decide)]; rfl
theorem num_2 : numS 2 = [50, 59] := by
  unfold numS; rw [show (2 : Int).natAbs = 2 from rfl, dg_small (by decide)]; rfl
theorem rd_1 : numR [120, 45, 52, 48, 59] 1 = (-40, 5, 0) := by decide +kernel
theorem rd_2 : numR [48, 49, 59] 0 = (0, 0, 6) := by decide +kernel

end Go.Aff.L01

/- Layer 1, walked: the reference's lists that are laid; LayLays. -/
namespace Go.Aff.L01
open Go.Proofs Go.Aff
set_option linter.unusedVariables false
set_option maxRecDepth 20000
set_option linter.unusedSimpArgs false
attribute [local go_sem] Try.underlying3 Try.underlying4 Try.underlying5 Try.underlying9 Try.underlying52 Try.underlying120 Try.underlying34 Try.underlying31 fits3 fits9

end Go.Aff.L01

