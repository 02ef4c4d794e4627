import Derived.Test.YtikbkaedemmpmaaGreatG8
import Derived.Test.YtikbkaedemmpmaaGreatProg

set_option linter.unusedSimpArgs false
set_option linter.unusedVariables false

namespace Go.Aff.L01
open Go.Proofs Go.Aff
set_option maxRecDepth 20000
theorem mixed : Tryz.prog.follows .mixedOrders = true := rfl
theorem agg3 : aggT Tryz.prog 3 = some false := by kernel_rfl
theorem cells3 : Tryz.prog.cellsOf 3 = 1 := by kernel_rfl
theorem agg5 : aggT Tryz.prog 5 = some false := by kernel_rfl
theorem zero5 : ZeroOf Tryz.prog 5 (.int .u8 0) := ⟨_, _, rfl, rfl, rfl, rfl, rfl⟩
theorem E51 : ElemT Tryz.prog 123 5 1 1 := ⟨rfl, by kernel_rfl, by kernel_rfl, ⟨_, zero5⟩, by decide⟩
theorem E25 : ElemT Tryz.prog 40 3 1 8 := ⟨rfl, by kernel_rfl, by kernel_rfl, ⟨.int .i64 0, ⟨_, _, rfl, rfl, rfl, rfl, rfl⟩⟩, by decide⟩
theorem S51 : isSliceT Tryz.prog 123 = true := rfl
attribute [local go_sem] Tryz.underlying5 Tryz.underlying197

theorem digits_c : ∀ (n : Nat), n < 18446744073709551616 → ∀ {tk : Tk} {l : List UInt8} {σ : AST} {K : AV → AST → Prop}, canApp σ tk l.length 1 → l.length ≤ 20000000 →
    K (.slice (growT σ tk) (u8s (l ++ dg n))) (growS σ tk (l ++ dg n).length 1) → TCalls Tryz.prog 134 [.slice tk (u8s l), .int .u64 n] σ K := by
  intro n
  induction n using Nat.strongRecOn with
  | ind n ih =>
  intro hn tk l σ K hcan hl hK
  refine tcalls_walk Tryz.f134 _ [.tmp 4] Tryz.func134 rfl rfl rfl mixed (Nat.le_of_ble_eq_true rfl) rfl fun hlen => ?_
  refine awp_seq_k fun KA hKA => ?_
  simp -dsimp only [↓reduceIte, go_sem]
  refine hKA _ _ (awp_seq_k fun KB hKB => ?_)
  have last : ∀ {tk : Tk} {l : List UInt8} {σ : AST} {τ : Env}, canApp σ tk l.length 1 → l.length ≤ 20000100 → τ 0 = .slice tk (u8s l) → τ 1 = .int .u64 n →
      K (.slice (growT σ tk) (u8s (l ++ [UInt8.ofNat (48 + n % 10)]))) (growS σ tk (l.length + 1) 1) → KB τ σ := by
    intro tk l σ τ hcan hl h0 h1 hK
    refine hKB _ _ ?_
    simp -dsimp only [↓reduceIte, go_sem, h0, h1]
    rw [show Int.tmod (n : Int) 10 = ((n % 10 : Nat) : Int) from tmod_nat n 10, wrap_u64 (by omega) (by omega), wrap_u8 (by omega) (by omega)]
    refine build_byte E51 agg5 (by omega) (by omega) ?_
    rw [show UInt8.ofNat ((48 : Int) + ((n % 10 : Nat) : Int)).toNat = UInt8.ofNat (48 + n % 10) by congr 1]
    simp -dsimp only [↓reduceIte, go_sem]
    refine append_bytes E51 S51 hcan (by simp; omega) (by simp [maxL]; omega) ?_
    simp -dsimp only [↓reduceIte, go_sem]
    exact hK
  simp -dsimp only [↓reduceIte, go_sem]
  refine boolW_split (fun hb => ?_) (fun hb => ?_)
  · have h10 : ¬ n < 10 := by simp at hb; omega
    simp -dsimp only [↓reduceIte, go_sem]
    rw [show Int.tdiv (n : Int) 10 = ((n / 10 : Nat) : Int) from tdiv_nat n 10, wrap_u64 (by omega) (by omega)]
    refine ih (n / 10) (by omega) (by omega) hcan hl ?_
    simp -dsimp only [↓reduceIte, go_sem]
    have hd := dg_len20 (n := n / 10) (by omega)
    refine last (tk := growT σ tk) (l := l ++ dg (n / 10)) (by exact canApp_grow hcan) (by simp; omega) ?_ ?_ ?_
    · simp -dsimp only [↓reduceIte, go_sem]
    · simp -dsimp only [↓reduceIte, go_sem]
    · rw [growT_growS, growS_growS hcan]
      rw [dg_big h10] at hK
      rw [show (l ++ dg (n / 10)).length + 1 = (l ++ (dg (n / 10) ++ [UInt8.ofNat (48 + n % 10)])).length by simp; omega, List.append_assoc]
      exact hK
  · have h10 : n < 10 := by simp at hb; omega
    simp -dsimp only [↓reduceIte, go_sem]
    refine last hcan (by omega) ?_ ?_ ?_
    · simp -dsimp only [↓reduceIte, go_sem]
    · simp -dsimp only [↓reduceIte, go_sem]
    · rw [dg_small h10] at hK
      rw [Nat.mod_eq_of_lt h10]
      rw [show l.length + 1 = (l ++ [UInt8.ofNat (48 + n)]).length by simp]
      exact hK
end Go.Aff.L01

namespace Go.Aff.L01
open Go.Proofs Go.Aff
set_option maxRecDepth 20000
attribute [local go_sem] Tryz.underlying3 Tryz.underlying5 Tryz.underlying9 Tryz.underlying123 Tryz.underlying197

theorem number_c {n : Int} (h0 : -9223372036854775808 ≤ n) (h1 : n ≤ 9223372036854775807) {σ : AST} {K : AV → AST → Prop} (hK : K (.str (numS n)) σ) : TCalls Tryz.prog 95 [.int .i64 n] σ K := by
  refine TCalls.drop ?_
  refine tcalls_walk Tryz.f95 _ [.tmp 2] Tryz.func95 rfl rfl rfl mixed (Nat.le_of_ble_eq_true rfl) rfl fun hlen => ?_
  have hd := dg_len20 (n := n.natAbs) (by omega)
  simp -dsimp only [↓reduceIte, go_sem]
  refine boolW_split (fun hb => ?_) (fun hb => ?_)
  · have hneg : n < 0 := by simpa using hb
    simp -dsimp only [↓reduceIte, go_sem]
    refine build_byte E51 agg5 (by decide) (by decide) ?_
    simp -dsimp only [↓reduceIte, go_sem]
    rw [show IntKind.u64.wrap (0 - IntKind.u64.wrap n) = ((n.natAbs : Nat) : Int) by rw [IntKind.wrap_u64, IntKind.wrap_u64]; omega]
    refine digits_c _ (by omega) canFull (by simp) ?_
    simp -dsimp only [↓reduceIte, go_sem]
    refine build_byte E51 agg5 (by decide) (by decide) ?_
    simp -dsimp only [↓reduceIte, go_sem]
    refine append_bytes E51 S51 canGrow (by simp; omega) (by simp [maxL]; omega) ?_
    simp -dsimp only [↓reduceIte, go_sem]
    refine ⟨?_, rfl, ?_⟩
    · rw [growFull]; exact Ext.growFull _ _ _
    · have : numS n = [UInt8.ofNat (Int.toNat 45)] ++ dg n.natAbs ++ [UInt8.ofNat (Int.toNat 59)] := by simp [numS, hneg]
      rw [this] at hK; exact hK
  · have hneg : ¬ n < 0 := by simpa using hb
    simp -dsimp only [↓reduceIte, go_sem]
    rw [show IntKind.u64.wrap n = ((n.natAbs : Nat) : Int) by rw [IntKind.wrap_u64]; omega]
    refine digits_c (l := []) _ (by omega) canFull (by simp) ?_
    simp -dsimp only [↓reduceIte, go_sem]
    refine build_byte E51 agg5 (by decide) (by decide) ?_
    simp -dsimp only [↓reduceIte, go_sem]
    refine append_bytes E51 S51 canGrow (by simp; omega) (by simp [maxL]; omega) ?_
    simp -dsimp only [↓reduceIte, go_sem]
    refine ⟨?_, rfl, ?_⟩
    · rw [growFull]; exact Ext.growFull _ _ _
    · have : numS n = dg n.natAbs ++ [UInt8.ofNat (Int.toNat 59)] := by simp [numS, hneg]
      rw [this] at hK; exact hK

theorem Digits_c : ∀ (n : Nat), n < 9223372036854775808 → ∀ {σ : AST} {K : AV → AST → Prop}, K (.str (dg n)) σ → TCalls Tryz.prog 107 [.int .i64 n] σ K := by
  intro n
  induction n using Nat.strongRecOn with
  | ind n ih =>
  intro hn σ K hK
  refine tcalls_walk Tryz.f107 _ [.tmp 2] Tryz.func107 rfl rfl rfl mixed (Nat.le_of_ble_eq_true rfl) rfl fun hlen => ?_
  simp -dsimp only [↓reduceIte, go_sem]
  refine boolW_split (fun hb => ?_) (fun hb => ?_)
  · have h10 : n < 10 := by simp at hb; omega
    simp -dsimp only [↓reduceIte, go_sem]
    rw [wrap_i64 (by omega) (by omega), wrap_u8 (by omega) (by omega)]
    refine build_byte E51 agg5 (by omega) (by omega) ?_
    simp -dsimp only [↓reduceIte, go_sem]
    rw [dg_small h10] at hK
    rw [show ((48 : Int) + (n : Int)).toNat = 48 + n by omega]
    exact hK
  · have h10 : ¬ n < 10 := by simp at hb; omega
    simp -dsimp only [↓reduceIte, go_sem]
    refine awp_drawS [0, 1, 3, 4, 5, 6, 7, 8, 2, 9, 10] (by kernel_rfl) ?_
    simp -dsimp only [↓reduceIte, go_sem]
    rw [show Int.tmod (n : Int) 10 = ((n % 10 : Nat) : Int) from tmod_nat n 10, wrap_i64 (n := 48 + _) (by omega) (by omega), wrap_u8 (by omega) (by omega)]
    refine build_byte E51 agg5 (by omega) (by omega) ?_
    simp -dsimp only [↓reduceIte, go_sem]
    rw [show Int.tdiv (n : Int) 10 = ((n / 10 : Nat) : Int) from tdiv_nat n 10, wrap_i64 (by omega) (by omega)]
    refine ih (n / 10) (by omega) (by omega) ?_
    simp -dsimp only [↓reduceIte, go_sem]
    have hd := dg_len20 (n := n / 10) (by omega)
    refine side_later (by simp [maxL]; omega) ?_
    simp -dsimp only [↓reduceIte, go_sem]
    rw [dg_big h10] at hK
    rw [show ((48 : Int) + ((n % 10 : Nat) : Int)).toNat = 48 + n % 10 by omega]
    exact hK

theorem Digits_i {i : Int} (h0 : 0 ≤ i) (h1 : i ≤ 9223372036854775807) {σ : AST} {K : AV → AST → Prop} (hK : K (.str (dg i.toNat)) σ) : TCalls Tryz.prog 107 [.int .i64 i] σ K := by
  have := Digits_c i.toNat (by omega) hK
  rwa [Int.toNat_of_nonneg h0] at this

theorem Number_c {n : Int} (h0 : -9223372036854775808 ≤ n) (h1 : n ≤ 9223372036854775807) {σ : AST} {K : AV → AST → Prop} (hK : K (.str (numS n)) σ) : TCalls Tryz.prog 72 [.int .i64 n] σ K := by
  refine tcalls_walk Tryz.f72 _ [.tmp 2] Tryz.func72 rfl rfl rfl mixed (Nat.le_of_ble_eq_true rfl) rfl fun hlen => ?_
  have hd := dg_len20 (n := n.natAbs) (by omega)
  simp -dsimp only [↓reduceIte, go_sem]
  refine boolW_split (fun hb => ?_) (fun hb => ?_)
  · have hneg : 0 ≤ n := by simpa using hb
    simp -dsimp only [↓reduceIte, go_sem]
    refine Digits_i hneg h1 ?_
    rw [show n.toNat = n.natAbs by omega]
    simp -dsimp only [↓reduceIte, go_sem]
    refine side_later (by simp [maxL]; omega) ?_
    simp -dsimp only [↓reduceIte, go_sem]
    have : numS n = dg n.natAbs ++ [59] := by simp [numS]; omega
    rw [this] at hK; exact hK
  · have hneg : n < 0 := by simpa using hb
    have ht := tdiv10_neg (n := n) (by omega)
    have hm := tmod10_neg (n := n) (by omega)
    simp -dsimp only [↓reduceIte, go_sem]
    rw [wrap_i64 (n := n.tdiv 10) (by omega) (by omega)]
    refine boolW_split (fun hz => ?_) (fun hz => ?_)
    · have hz : n.tdiv 10 = 0 := by simpa using hz
      simp -dsimp only [↓reduceIte, go_sem]
      rw [wrap_i64 (by omega) (by omega)]
      refine Digits_i (by omega) (by omega) ?_
      rw [show (0 - n).toNat = n.natAbs by omega]
      simp -dsimp only [↓reduceIte, go_sem]
      refine side_later (by simp [maxL]; omega) ?_
      simp -dsimp only [↓reduceIte, go_sem]
      refine side_later (by simp [maxL]; omega) ?_
      simp -dsimp only [↓reduceIte, go_sem]
      have : numS n = 45 :: (dg n.natAbs ++ [59]) := by simp [numS, hneg]
      rw [this] at hK; exact hK
    · have hz : ¬ n.tdiv 10 = 0 := by simpa using hz
      simp -dsimp only [↓reduceIte, go_sem]
      rw [wrap_i64 (n := n.tdiv 10) (by omega) (by omega), wrap_i64 (by omega) (by omega)]
      refine Digits_i (by omega) (by omega) ?_
      have e1 : (0 - n.tdiv 10).toNat = n.natAbs / 10 := by omega
      have e2 : (0 - n.tmod 10).toNat = n.natAbs % 10 := by omega
      have hd2 := dg_len20 (n := n.natAbs / 10) (by omega)
      have hd3 := dg_len20 (n := n.natAbs % 10) (by omega)
      rw [e1]
      simp -dsimp only [↓reduceIte, go_sem]
      refine side_later (by simp [maxL]; omega) ?_
      simp -dsimp only [↓reduceIte, go_sem]
      rw [wrap_i64 (by omega) (by omega)]
      refine Digits_i (by omega) (by omega) ?_
      rw [e2]
      simp -dsimp only [↓reduceIte, go_sem]
      refine side_later (by simp [maxL]; omega) ?_
      simp -dsimp only [↓reduceIte, go_sem]
      refine side_later (by simp [maxL]; omega) ?_
      simp -dsimp only [↓reduceIte, go_sem]
      have h10 : ¬ n.natAbs < 10 := by omega
      have : numS n = 45 :: (dg (n.natAbs / 10) ++ (dg (n.natAbs % 10) ++ [59])) := by
        rw [dg_small (n := n.natAbs % 10) (by omega)]
        simp [numS, hneg]
        rw [dg_big h10]; simp
      rw [this] at hK
      simpa using hK

def textS (s : List UInt8) : List UInt8 := dg s.length ++ [58] ++ s

theorem text_c {s : List UInt8} {σ : AST} {K : AV → AST → Prop} (hK : K (if 16384 < s.length then .tuple [.str [], .int .i64 4] else .tuple [.str (textS s), .int .i64 0]) σ) : TCalls Tryz.prog 96 [.str s] σ K := by
  refine TCalls.drop ?_
  refine tcalls_walk Tryz.f96 _ [.tmp 2, .tmp 3] Tryz.func96 rfl rfl rfl mixed (Nat.le_of_ble_eq_true rfl) rfl fun hlen => ?_
  simp -dsimp only [↓reduceIte, go_sem]
  refine arr_intro fun _ => ?_
  simp -dsimp only [↓reduceIte, go_sem]
  refine boolW_split (fun hb => ?_) (fun hb => ?_)
  · have hb : 16384 < s.length := by simp at hb; omega
    rw [if_pos hb] at hK
    simp -dsimp only [↓reduceIte, go_sem]
    exact ⟨Ext.refl _, rfl, hK⟩
  · have hb : ¬ 16384 < s.length := by simp at hb; omega
    rw [if_neg hb] at hK
    have hd := dg_len20 (n := s.length) (by omega)
    simp -dsimp only [↓reduceIte, go_sem]
    refine arr_intro fun _ => ?_
    simp -dsimp only [↓reduceIte, go_sem]
    rw [wrap_u64 (by omega) (by omega)]
    refine digits_c (l := []) _ (by omega) canFull (by simp) ?_
    simp -dsimp only [↓reduceIte, go_sem]
    refine build_byte E51 agg5 (by decide) (by decide) ?_
    simp -dsimp only [↓reduceIte, go_sem]
    refine append_bytes E51 S51 canGrow (by simp; omega) (by simp [maxL]; omega) ?_
    simp -dsimp only [↓reduceIte, go_sem]
    refine side_later (by simp [maxL]; omega) ?_
    simp -dsimp only [↓reduceIte, go_sem]
    refine ⟨?_, rfl, ?_⟩
    · rw [growFull]; exact Ext.growFull _ _ _
    · exact hK

end Go.Aff.L01

namespace Go.Aff.L01
open Go.Proofs Go.Aff
set_option maxRecDepth 20000
theorem agg9 : aggT Tryz.prog 9 = some false := by kernel_rfl
theorem cells9 : Tryz.prog.cellsOf 9 = 1 := by kernel_rfl
theorem fits3 {v : AV} : fits Tryz.prog 3 v = (v.isAgg = false ∧ v.size = 1) := fits_leaf agg3 cells3
theorem fits9 {v : AV} : fits Tryz.prog 9 v = (v.isAgg = false ∧ v.size = 1) := fits_leaf agg9 cells9
attribute [local go_sem] Tryz.underlying5 Tryz.underlying9 Tryz.underlying123 Tryz.underlying40 fits3

theorem numbers1_c {n : Int} (h0 : -9223372036854775808 ≤ n) (h1 : n ≤ 9223372036854775807) {σ : AST} {K : AV → AST → Prop} (hK : K (.tuple [.str (numS n), .int .i64 0]) σ) : TCalls Tryz.prog 99 [.int .i64 n] σ K := by
  refine tcalls_walk Tryz.f99 _ [.tmp 2, .tmp 3] Tryz.func99 rfl rfl rfl mixed (Nat.le_of_ble_eq_true rfl) rfl fun hlen => ?_
  simp -dsimp only [↓reduceIte, go_sem]
  refine number_c h0 h1 ?_
  simp -dsimp only [↓reduceIte, go_sem]
  exact hK

theorem flat_len {α : Type} {f : α → List UInt8} {m : Nat} : ∀ {l : List α}, (∀ x ∈ l, (f x).length ≤ m) → (l.flatMap f).length ≤ l.length * m
  | [], h => by simp
  | x :: r, h => by
    have := flat_len (f := f) (m := m) (l := r) (fun y hy => h y (by simp [hy]))
    have h1 := h x (by simp)
    simp only [List.flatMap_cons, List.length_append, List.length_cons, Nat.add_mul]
    omega
theorem flat_take {α : Type} {f : α → List UInt8} {l : List α} {i : Nat} {x : α} (h : l[i]? = some x) : (l.take (i + 1)).flatMap f = (l.take i).flatMap f ++ f x := by
  rw [List.take_add_one, h]; simp

def part {α : Type} (f : α → List UInt8) (l : List α) (i : Nat) : List UInt8 := 40 :: (l.take i).flatMap f
theorem part_zero {α : Type} {f : α → List UInt8} {l : List α} : part f l 0 = [40] := by simp [part]
theorem part_succ {α : Type} {f : α → List UInt8} {l : List α} {i : Nat} {x : α} (h : l[i]? = some x) : part f l (i + 1) = part f l i ++ f x := by simp [part, flat_take h]
theorem part_all {α : Type} {f : α → List UInt8} {l : List α} : part f l l.length = 40 :: l.flatMap f := by simp [part]
theorem part_len {α : Type} {f : α → List UInt8} {l : List α} {m i : Nat} (h : ∀ x ∈ l, (f x).length ≤ m) (hi : i ≤ l.length) : (part f l i).length ≤ 1 + l.length * m := by
  have := flat_len (f := f) (m := m) (l := l.take i) (fun x hx => h x (List.mem_of_mem_take hx))
  have h2 : (l.take i).length * m ≤ l.length * m := Nat.mul_le_mul_right m (by simp; omega)
  simp only [part, List.length_cons]; omega
def laidAll {α : Type} (f : α → List UInt8) (l : List α) : List UInt8 := part f l l.length ++ [41]

theorem listInt_c {l : List Int} (hl : ∀ n ∈ l, -9223372036854775808 ≤ n ∧ n ≤ 9223372036854775807) {tk0 : Tk} {σ : AST} {K : AV → AST → Prop}
    (hK : K (if 512 < l.length then .tuple [.str [], .int .i64 4] else .tuple [.str (laidAll numS l), .int .i64 0]) σ) : TCalls Tryz.prog 98 [.slice tk0 (l.map (AV.int .i64)), .fn (.func 99) [] []] σ K := by
  refine TCalls.drop ?_
  refine tcalls_walk Tryz.f98 _ [.tmp 4, .tmp 5] Tryz.func98 rfl rfl rfl mixed (Nat.le_of_ble_eq_true rfl) rfl fun hlen => ?_
  have hs : l.length ≤ 9223372036854775807 := by
    have := hlen (.slice tk0 (l.map (AV.int .i64))) (by simp)
    simp only [lenOk, List.length_map, maxL] at this; exact this
  refine awp_seq_k fun KA hKA => ?_
  simp -dsimp only [↓reduceIte, go_sem]
  refine hKA _ _ ?_
  simp -dsimp only [↓reduceIte, go_sem]
  refine arr_intro fun _ => ?_
  simp only [List.length_map]
  simp -dsimp only [↓reduceIte, go_sem]
  refine boolW_split (fun hb => ?_) (fun hb => ?_)
  · have hb : 512 < l.length := by simp at hb; omega
    rw [if_pos hb] at hK
    simp -dsimp only [↓reduceIte, go_sem]
    exact ⟨Ext.refl _, rfl, hK⟩
  · have hb : ¬ 512 < l.length := by simp at hb; omega
    rw [if_neg hb] at hK
    simp -dsimp only [↓reduceIte, go_sem]
    refine build_byte E51 agg5 (by decide) (by decide) ?_
    simp -dsimp only [↓reduceIte, go_sem]
    refine arr_intro fun _ => ?_
    simp only [List.length_map]
    simp -dsimp only [↓reduceIte, go_sem]
    refine awp_rounds (fun (i : Nat) τ s => i ≤ l.length ∧ Ext σ s ∧ τ 1 = .fn (.func 99) [] [] ∧ τ 15 = .slice tk0 (l.map (AV.int .i64)) ∧ τ 16 = .int .i64 l.length ∧ τ 17 = .int .i64 i ∧
      ∃ tk, tkNew σ tk ∧ canApp s tk (part numS l i).length 1 ∧ τ 6 = .slice tk (u8s (part numS l i))) (fun i => l.length - i) 0 ?_ ?_
    · refine ⟨by omega, Ext.refl _, ?_, ?_, ?_, ?_, .full, .inl rfl, trivial, ?_⟩ <;> simp only [go_sem] <;> first | rfl | (rw [part_zero]; rfl)
    · rintro i τ s ⟨hi, hx, t1, t15, t16, t17, tk, htk, hcan, t6⟩
      have hcat := part_len (f := numS) (l := l) (m := 22) (i := i) (fun x hx => numS_len (hl x hx).1 (hl x hx).2) hi
      simp -dsimp only [↓reduceIte, go_sem, t1, t6, t15, t16, t17]
      refine boolW_split (fun h1 => ?_) (fun h1 => ?_)
      · have h1 : i < l.length := by simp at h1; omega
        obtain ⟨n, hn⟩ := get_lt h1
        have hr := hl n (List.mem_iff_getElem?.2 ⟨i, hn⟩)
        simp -dsimp only [↓reduceIte, go_sem, t1, t6, t15, t16, t17]
        refine nth_get hn ?_
        simp -dsimp only [↓reduceIte, go_sem, t1, t6, t15, t16, t17]
        refine numbers1_c hr.1 hr.2 ?_
        simp -dsimp only [↓reduceIte, go_sem, t1, t6, t15, t16, t17]
        have hnl := numS_len hr.1 hr.2
        refine append_text E51 Tryz.underlying9 hcan (by omega) (by simp only [maxL]; omega) ?_
        simp -dsimp only [↓reduceIte, go_sem, t1, t6, t15, t16, t17]
        rw [wrap_i64 (by omega) (by omega)]
        refine later_intro ⟨i + 1, by omega, ?_⟩
        rw [part_succ hn, List.length_append]
        refine ⟨by omega, hx.grow htk, ?_, ?_, ?_, ?_, growT s tk, htk.grow hx, canApp_grow hcan, ?_⟩ <;> simp only [go_sem, t1, t15, t16, t17] <;> rfl
      · have h1 : i = l.length := by simp at h1; omega
        subst h1
        simp -dsimp only [↓reduceIte, go_sem, t1, t6, t15, t16, t17]
        refine build_byte E51 agg5 (by decide) (by decide) ?_
        simp -dsimp only [↓reduceIte, go_sem, t1, t6, t15, t16, t17]
        refine append_bytes E51 S51 hcan (by simp; omega) (by simp [maxL]; omega) ?_
        simp -dsimp only [↓reduceIte, go_sem, t1, t6, t15, t16, t17]
        exact ⟨hx.grow htk, rfl, hK⟩

theorem numbers_c {l : List Int} (hl : ∀ n ∈ l, -9223372036854775808 ≤ n ∧ n ≤ 9223372036854775807) {tk0 : Tk} {σ : AST} {K : AV → AST → Prop}
    (hK : K (if 512 < l.length then .tuple [.str [], .int .i64 4] else .tuple [.str (laidAll numS l), .int .i64 0]) σ) : TCalls Tryz.prog 59 [.slice tk0 (l.map (AV.int .i64))] σ K := by
  refine tcalls_walk Tryz.f59 _ [.tmp 2, .tmp 3] Tryz.func59 rfl rfl rfl mixed (Nat.le_of_ble_eq_true rfl) rfl fun hlen => ?_
  simp -dsimp only [↓reduceIte, go_sem]
  refine listInt_c hl ?_
  split
  · rename_i h
    rw [if_pos h] at hK
    simp -dsimp only [↓reduceIte, go_sem]
    exact hK
  · rename_i h
    rw [if_neg h] at hK
    simp -dsimp only [↓reduceIte, go_sem]
    exact hK
end Go.Aff.L01

namespace Go.Aff.L01
open Go.Proofs Go.Aff
set_option maxRecDepth 20000
end Go.Aff.L01

namespace Go.Aff.L01
open Go.Aff

def isD (b : UInt8) : Bool := decide (48 ≤ b.toNat) && decide (b.toNat ≤ 57)
def val (l : List UInt8) : Nat := l.foldl (fun a b => a * 10 + (b.toNat - 48)) 0
def digs (s : List UInt8) (p : Nat) : List UInt8 := (s.drop p).takeWhile isD
def dend (s : List UInt8) (p : Nat) : Nat := p + (digs s p).length

theorem val_snoc (l : List UInt8) (b : UInt8) : val (l ++ [b]) = val l * 10 + (b.toNat - 48) := by simp [val, List.foldl_append]
theorem val_take_succ {l : List UInt8} {k : Nat} {b : UInt8} (h : l[k]? = some b) : val (l.take (k + 1)) = val (l.take k) * 10 + (b.toNat - 48) := by
  rw [← val_snoc, List.take_add_one, h]; rfl

theorem takeWhile_at {p : UInt8 → Bool} : ∀ (l : List UInt8) (k : Nat), k ≤ (l.takeWhile p).length → (k < (l.takeWhile p).length ↔ ∃ b, l[k]? = some b ∧ p b = true)
  | [], k, h => by simp
  | b :: l, k, h => by
    by_cases hb : p b = true
    · rw [List.takeWhile_cons_of_pos hb] at h ⊢
      cases k with
      | zero => simp [hb]
      | succ k => simpa using takeWhile_at l k (by simpa using h)
    · rw [List.takeWhile_cons_of_neg hb] at h ⊢
      simp at h; subst h; simp [hb]
theorem takeWhile_get {p : UInt8 → Bool} : ∀ (l : List UInt8) (k : Nat), k < (l.takeWhile p).length → (l.takeWhile p)[k]? = l[k]?
  | [], k, h => by simp at h
  | b :: l, k, h => by
    by_cases hb : p b = true
    · rw [List.takeWhile_cons_of_pos hb] at h ⊢
      cases k with
      | zero => rfl
      | succ k => simpa using takeWhile_get l k (by simpa using h)
    · rw [List.takeWhile_cons_of_neg hb] at h; simp at h

theorem digs_at {s : List UInt8} {p k : Nat} (h : k ≤ (digs s p).length) : k < (digs s p).length ↔ ∃ b, s[p + k]? = some b ∧ isD b = true := by
  have := takeWhile_at (p := isD) (s.drop p) k h
  simpa [digs, List.getElem?_drop] using this
theorem digs_get {s : List UInt8} {p k : Nat} (h : k < (digs s p).length) : (digs s p)[k]? = s[p + k]? := by
  have := takeWhile_get (p := isD) (s.drop p) k h
  simpa [digs, List.getElem?_drop] using this
theorem digs_le (s : List UInt8) (p : Nat) : (digs s p).length ≤ s.length - p := by
  have := (List.takeWhile_sublist isD (l := s.drop p)).length_le
  simpa [digs] using this
theorem dend_le {s : List UInt8} {p : Nat} (h : p ≤ s.length) : dend s p ≤ s.length := by
  have := digs_le s p; unfold dend; omega

def bAt (s : List UInt8) (i : Nat) : Nat := ((s[i]?).getD 0).toNat
theorem bAt_of {s : List UInt8} {i : Nat} {b : UInt8} (h : s[i]? = some b) : bAt s i = b.toNat := by simp [bAt, h]

def shapeS (s : List UInt8) (p e : Nat) (last : Nat) : Int :=
  if e = s.length then 5 else if e = p ∨ bAt s e ≠ last ∨ (1 < e - p ∧ bAt s p = 48) then 6 else 0

def numT (s : List UInt8) (low : Bool) (q most : Nat) : Int × Int × Int :=
  if shapeS s q (dend s q) 59 ≠ 0 then (0, 0, shapeS s q (dend s q) 59) else
  if low = true ∧ dend s q = q + 1 ∧ bAt s q = 48 then (0, 0, 6) else
  if most < val (digs s q) then (0, 0, 4) else
  (if low then -(val (digs s q) : Int) else (val (digs s q) : Int), (dend s q : Int) + 1, 0)
def lowB (s : List UInt8) (p : Nat) : Bool := decide (p < s.length) && decide (bAt s p = 45)
def numP (s : List UInt8) (p : Nat) : Int × Int × Int := numT s (lowB s p) (if lowB s p then p + 1 else p) (if lowB s p then 9223372036854775808 else 9223372036854775807)

def numR (s : List UInt8) (i : Int) : Int × Int × Int := if i < 0 ∨ (s.length : Int) < i then (0, 0, 3) else numP s i.toNat

def tup3 (x : Int × Int × Int) : AV := .tuple [.int .i64 x.1, .int .i64 x.2.1, .int .i64 x.2.2]
end Go.Aff.L01

namespace Go.Aff.L01
open Go.Proofs Go.Aff
set_option maxRecDepth 20000
attribute [local go_sem] Tryz.underlying3 Tryz.underlying5 Tryz.underlying9 Tryz.underlying197

theorem run_c {s : List UInt8} {p : Nat} (hp : p ≤ s.length) {most : Nat} (hm9 : 9 ≤ most) (hm : most < 18446744073709551616) {σ : AST} {K : AV → AST → Prop}
    (hK : K (.tuple [.int .i64 (dend s p : Nat), .int .u64 (val (digs s p) % 18446744073709551616 : Nat), .bool (decide (val (digs s p) ≤ most))]) σ) : TCalls Tryz.prog 135 [.str s, .int .i64 p, .int .u64 most] σ K := by
  refine tcalls_walk Tryz.f135 _ [.tmp 6, .tmp 7, .tmp 8] Tryz.func135 rfl rfl rfl mixed (Nat.le_of_ble_eq_true rfl) rfl fun hlen => ?_
  have hs : s.length ≤ 9223372036854775807 := hlen (.str s) (by simp)
  have hde := dend_le hp
  have hdd : dend s p = p + (digs s p).length := rfl
  generalize hD : digs s p = D at *
  generalize hE : dend s p = E at *
  simp -dsimp only [↓reduceIte, go_sem]
  refine awp_loop_of (fun (k : Nat) τ s' => s' = σ ∧ τ 0 = .str s ∧ τ 2 = .int .u64 most ∧ τ 1 = .int .i64 (p + k : Nat) ∧ k ≤ D.length ∧ τ 9 = .int .u64 (val (D.take k) % 18446744073709551616 : Nat) ∧ τ 10 = .bool (decide (val (D.take k) ≤ most))) (fun k => D.length - k) 0 ?_ ?_
  · simp [go_sem, val]
  · rintro k τ s' ⟨rfl, h0, h2, h1, hk, h9, h10⟩
    have hat := digs_at (s := s) (p := p) (k := k) (by rw [hD]; exact hk)
    rw [hD] at hat
    have fin : k = D.length → K (.tuple [.int .i64 (p + k : Nat), .int .u64 (val (D.take k) % 18446744073709551616 : Nat), .bool (decide (val (D.take k) ≤ most))]) s' := by
      intro e; subst e; rw [List.take_length]; rw [hdd] at hK; exact hK
    simp -dsimp only [↓reduceIte, go_sem, h0, h1, h2, h9, h10]
    refine arr_intro fun _ => ?_
    simp -dsimp only [↓reduceIte, go_sem, h0, h1, h2, h9, h10]
    have hfin0 : s.length ≤ p + k → k = D.length := fun h => by
      have : ¬ k < D.length := fun hlt => by
        obtain ⟨b, hb, _⟩ := hat.1 hlt
        have := (List.getElem?_eq_some_iff.1 hb).1; omega
      omega
    have hfin1 : ∀ b, s[p + k]? = some b → ¬ (48 ≤ b.toNat ∧ b.toNat ≤ 57) → k = D.length := fun b hb hn => by
      have : ¬ k < D.length := fun hlt => by
        obtain ⟨b', hb', hd⟩ := hat.1 hlt
        rw [hb] at hb'; cases hb'
        simp [isD] at hd; exact hn hd
      omega
    refine guardV_split (fun hb => ?_) (fun hb => ?_) <;> (try rw [hb])
    · obtain ⟨b, hbi⟩ := get_lt (l := s) (i := p + k) (by simp at hb; omega)
      simp -dsimp only [↓reduceIte, go_sem, h0, h1, h2, h9, h10]
      refine nth_get hbi ?_
      simp -dsimp only [↓reduceIte, go_sem, h0, h1, h2, h9, h10]
      refine guardV_split (fun hb1 => ?_) (fun hb1 => ?_) <;> (try rw [hb1])
      · simp -dsimp only [↓reduceIte, go_sem, h0, h1, h2, h9, h10]
        refine nth_get hbi ?_
        simp -dsimp only [↓reduceIte, go_sem, h0, h1, h2, h9, h10]
        refine boolW_split (fun hb2 => ?_) (fun hb2 => ?_)
        · simp at hb1 hb2
          have hlt : k < D.length := hat.2 ⟨b, hbi, by simp [isD]; omega⟩
          have hDk : D[k]? = some b := by rw [← hD, digs_get (by rw [hD]; exact hlt)]; exact hbi
          have hval := val_take_succ hDk
          simp -dsimp only [↓reduceIte, go_sem, h0, h1, h2, h9, h10]
          refine nth_get hbi ?_
          simp -dsimp only [↓reduceIte, go_sem, h0, h1, h2, h9, h10]
          rw [show IntKind.u64.wrap (IntKind.u8.wrap ((b.toNat : Int) - 48)) = ((b.toNat - 48 : Nat) : Int) by rw [wrap_u8 (by omega) (by omega), wrap_u64 (by omega) (by omega)]; omega]
          rw [show IntKind.u64.wrap ((most : Int) - ((b.toNat - 48 : Nat) : Int)) = ((most - (b.toNat - 48) : Nat) : Int) by rw [wrap_u64 (by omega) (by omega)]; omega]
          rw [show Int.tdiv ((most - (b.toNat - 48) : Nat) : Int) 10 = (((most - (b.toNat - 48)) / 10 : Nat) : Int) from tdiv_nat _ 10]
          rw [wrap_u64 (n := (((most - (b.toNat - 48)) / 10 : Nat) : Int)) (by omega) (by omega)]
          have hnew : IntKind.u64.wrap (IntKind.u64.wrap (((val (D.take k) % 18446744073709551616 : Nat) : Int) * 10) + ((b.toNat - 48 : Nat) : Int)) = ((val (D.take (k + 1)) % 18446744073709551616 : Nat) : Int) := by
            rw [IntKind.wrap_u64, IntKind.wrap_u64, hval]; omega
          have hpk : IntKind.i64.wrap (((p + k : Nat) : Int) + 1) = ((p + (k + 1) : Nat) : Int) := by rw [wrap_i64 (by omega) (by omega)]; omega
          refine boolW_split (fun hc => ?_) (fun hc => ?_)
          · simp -dsimp only [↓reduceIte, go_sem, h0, h1, h2, h9, h10]
            refine ⟨_, ?_, k + 1, ?_, rfl⟩
            · omega
            · simp at hc
              have hbig : ¬ val (D.take (k + 1)) ≤ most := by
                rw [hval]
                by_cases hv : val (D.take k) ≤ most
                · rw [show ((val (D.take k) : Nat) : Int) % 18446744073709551616 = ((val (D.take k) : Nat) : Int) by omega] at hc; clear hnew hpk hval; omega
                · clear hnew hpk hval hc; omega
              rw [hnew, hpk]
              simp only [go_sem, h0, h2]
              refine ⟨by omega, ?_⟩
              simp [hbig]
          · simp -dsimp only [↓reduceIte, go_sem, h0, h1, h2, h9, h10]
            refine ⟨_, ?_, k + 1, ?_, rfl⟩
            · omega
            · simp at hc
              have hbig : val (D.take (k + 1)) ≤ most ↔ val (D.take k) ≤ most := by
                rw [hval]
                by_cases hv : val (D.take k) ≤ most
                · rw [show ((val (D.take k) : Nat) : Int) % 18446744073709551616 = ((val (D.take k) : Nat) : Int) by omega] at hc; clear hnew hpk hval; omega
                · clear hnew hpk hval hc; omega
              rw [hnew, hpk]
              simp only [go_sem, h0, h2, h10]
              refine ⟨by omega, ?_⟩
              simp [hbig]
        · simp -dsimp only [↓reduceIte, go_sem, h0, h1, h2, h9, h10]
          exact fin (hfin1 b hbi (by simp at hb2; omega))
      · simp -dsimp only [↓reduceIte, go_sem, h0, h1, h2, h9, h10]
        exact fin (hfin1 b hbi (by simp at hb1; omega))
    · simp -dsimp only [↓reduceIte, go_sem, h0, h1, h2, h9, h10]
      exact fin (hfin0 (by simp at hb; omega))

theorem shape_c {s : List UInt8} {p e last : Nat} (hp : p ≤ e) (he : e ≤ s.length) {σ : AST} {K : AV → AST → Prop} (hK : K (.int .i64 (shapeS s p e last)) σ) : TCalls Tryz.prog 136 [.str s, .int .i64 p, .int .i64 e, .int .u8 last] σ K := by
  refine tcalls_walk Tryz.f136 _ [.tmp 8] Tryz.func136 rfl rfl rfl mixed (Nat.le_of_ble_eq_true rfl) rfl fun hlen => ?_
  have hs : s.length ≤ 9223372036854775807 := hlen (.str s) (by simp)
  unfold shapeS at hK
  simp -dsimp only [↓reduceIte, go_sem]
  refine arr_intro fun _ => ?_
  simp -dsimp only [↓reduceIte, go_sem]
  refine boolW_split (fun hb => ?_) (fun hb => ?_)
  · have hb : e = s.length := by simp at hb; omega
    rw [if_pos hb] at hK
    simp -dsimp only [↓reduceIte, go_sem]
    exact hK
  · have hb : ¬ e = s.length := by simp at hb; omega
    rw [if_neg hb] at hK
    obtain ⟨be, hbe⟩ := get_lt (l := s) (i := e) (by omega)
    rw [bAt_of hbe] at hK
    simp -dsimp only [↓reduceIte, go_sem]
    refine guardV_split (fun h1 => ?_) (fun h1 => ?_) <;> (try rw [h1])
    · have h1 : ¬ e = p := by simp at h1; omega
      obtain ⟨bp, hbp⟩ := get_lt (l := s) (i := p) (by omega)
      rw [bAt_of hbp] at hK
      simp -dsimp only [↓reduceIte, go_sem]
      refine nth_get hbe ?_
      simp -dsimp only [↓reduceIte, go_sem]
      refine guardV_split (fun h2 => ?_) (fun h2 => ?_) <;> (try rw [h2])
      · have h2 : be.toNat = last := by simp at h2; omega
        simp -dsimp only [↓reduceIte, go_sem]
        rw [wrap_i64 (by omega) (by omega)]
        refine guardV_split (fun h3 => ?_) (fun h3 => ?_) <;> (try rw [h3])
        · have h3 : 1 < e - p := by simp at h3; omega
          simp -dsimp only [↓reduceIte, go_sem]
          refine nth_get hbp ?_
          simp -dsimp only [↓reduceIte, go_sem]
          refine boolW_split (fun h4 => ?_) (fun h4 => ?_)
          · have h4 : bp.toNat = 48 := by simp at h4; omega
            rw [if_pos (.inr (.inr ⟨h3, h4⟩))] at hK
            simp -dsimp only [↓reduceIte, go_sem]
            exact hK
          · have h4 : ¬ bp.toNat = 48 := by simp at h4; omega
            rw [if_neg (by omega)] at hK
            simp -dsimp only [↓reduceIte, go_sem]
            exact hK
        · have h3 : ¬ 1 < e - p := by simp at h3; omega
          rw [if_neg (by omega)] at hK
          simp -dsimp only [↓reduceIte, go_sem]
          exact hK
      · have h2 : ¬ be.toNat = last := by simp at h2; omega
        rw [if_pos (.inr (.inl h2))] at hK
        simp -dsimp only [↓reduceIte, go_sem]
        exact hK
    · have h1 : e = p := by simp at h1; omega
      rw [if_pos (.inl h1)] at hK
      simp -dsimp only [↓reduceIte, go_sem]
      exact hK

theorem shape_ok {s : List UInt8} {p e last : Nat} (h : shapeS s p e last = 0) (he : e ≤ s.length) : e < s.length ∧ e ≠ p := by
  unfold shapeS at h
  split at h
  · cases h
  · split at h
    · cases h
    · omega

theorem readNumber_c {s : List UInt8} {i : Int} (hi0 : -9223372036854775808 ≤ i) (hi1 : i ≤ 9223372036854775807) {σ : AST} {K : AV → AST → Prop}
    (hK : K (tup3 (numR s i)) σ) : TCalls Tryz.prog 101 [.str s, .int .i64 i] σ K := by
  refine tcalls_walk Tryz.f101 _ [.tmp 4, .tmp 5, .tmp 6] Tryz.func101 rfl rfl rfl mixed (Nat.le_of_ble_eq_true rfl) rfl fun hlen => ?_
  have hs : s.length ≤ 9223372036854775807 := hlen (.str s) (by simp)
  refine awp_seq_k fun KA hKA => ?_
  simp -dsimp only [↓reduceIte, go_sem]
  refine hKA _ _ (awp_seq_k fun KB hKB => ?_)
  have go : ∀ τ : Env, τ 0 = .str s → τ 1 = .int .i64 i → ¬ (i < 0 ∨ (s.length : Int) < i) → KB τ σ := by
    intro τ t0 t1 hok
    have hi : (i.toNat : Int) = i := by omega
    rw [numR, if_neg hok] at hK
    generalize hp : i.toNat = p at hi hK
    have hpl : p ≤ s.length := by omega
    rw [← hi] at t1
    refine hKB _ _ (awp_seq_k fun KC hKC => ?_)
    simp -dsimp only [↓reduceIte, go_sem, t0, t1]
    refine hKC _ _ (awp_seq_k fun KD hKD => ?_)
    rw [numP] at hK
    have tail : ∀ τ : Env, τ 0 = .str s → τ 1 = .int .i64 p → τ 7 = .int .u64 9223372036854775807 → τ 8 = .bool (lowB s p) → KD τ σ := by
      intro τ t0 t1 t7 t8
      refine hKD _ _ (awp_seq_k fun KE hKE => ?_)
      have hlp : lowB s p = true → p < s.length := fun h => by simp [lowB] at h; exact h.1
      generalize hlow : lowB s p = low at *
      have tail2 : ∀ (τ : Env) (q most : Nat), q = (if low then p + 1 else p) → most = (if low then 9223372036854775808 else 9223372036854775807) → τ 0 = .str s → τ 1 = .int .i64 q → τ 7 = .int .u64 most → τ 8 = .bool low → KE τ σ := by
        intro τ q most hq hmost t0 t1 t7 t8
        have hql : q ≤ s.length := by
          rw [hq]; split
          · rename_i h; have := hlp h; omega
          · exact hpl
        have hm1 : 9 ≤ most ∧ most ≤ 9223372036854775808 ∧ (low = false → most ≤ 9223372036854775807) := by rw [hmost]; cases low <;> simp
        have hel := dend_le hql
        have heq : q ≤ dend s q := by unfold dend; omega
        rw [← hq, ← hmost, numT] at hK
        refine hKE _ _ ?_
        simp -dsimp only [↓reduceIte, go_sem, t0, t1, t7, t8]
        refine run_c hql hm1.1 (by omega) ?_
        simp -dsimp only [↓reduceIte, go_sem, t0, t1, t7, t8]
        refine shape_c (last := 59) heq hel ?_
        generalize hval : val (digs s q) = v at *
        generalize hee : dend s q = e at *
        generalize hsh : shapeS s q e 59 = sh at *
        simp -dsimp only [↓reduceIte, go_sem, t0, t1, t7, t8]
        refine boolW_split (fun h1 => ?_) (fun h1 => ?_)
        · have h1 : sh ≠ 0 := by simp at h1; exact h1
          rw [if_pos h1] at hK
          simp -dsimp only [↓reduceIte, go_sem, t0, t1, t7, t8]
          exact hK
        · have h1 : sh = 0 := by simp at h1; exact h1
          rw [if_neg (by simp [h1])] at hK
          rw [h1] at hsh
          have hlt := shape_ok hsh hel
          obtain ⟨bq, hbq⟩ := get_lt (l := s) (i := q) (by omega)
          have hbq' := bAt_of hbq
          have big : ¬ v ≤ most → ¬ (low = true ∧ e = q + 1 ∧ bAt s q = 48) → K (tup3 (0, 0, 4)) σ := fun h h2 => by
            rw [if_neg h2, if_pos (by omega)] at hK; exact hK
          have fine : v ≤ most → ¬ (low = true ∧ e = q + 1 ∧ bAt s q = 48) → K (tup3 (if low then -(v : Int) else (v : Int), (e : Int) + 1, 0)) σ := fun h h2 => by
            rw [if_neg h2, if_neg (by omega)] at hK; exact hK
          cases low with
          | false =>
            simp -dsimp only [↓reduceIte, go_sem, t0, t1, t7, t8]
            refine boolW_split (fun h2 => ?_) (fun h2 => ?_)
            · have h2 : ¬ v ≤ most := by simp at h2; omega
              simp -dsimp only [↓reduceIte, go_sem, t0, t1, t7, t8]
              exact big h2 (by simp)
            · have h2 : v ≤ most := by simp at h2; omega
              have := hm1.2.2 rfl
              simp -dsimp only [↓reduceIte, go_sem, t0, t1, t7, t8]
              have h3 := fine h2 (by simp)
              rw [wrap_i64 (by omega) (by omega), wrap_i64 (by omega) (by omega)]
              rw [show v % 18446744073709551616 = v by omega]
              exact h3
          | true =>
            simp -dsimp only [↓reduceIte, go_sem, t0, t1, t7, t8]
            rw [wrap_i64 (by omega) (by omega)]
            refine guardV_split (fun h2 => ?_) (fun h2 => ?_) <;> (try rw [h2])
            · have h2 : e = q + 1 := by simp at h2; omega
              simp -dsimp only [↓reduceIte, go_sem, t0, t1, t7, t8]
              refine nth_get hbq ?_
              simp -dsimp only [↓reduceIte, go_sem, t0, t1, t7, t8]
              refine boolW_split (fun h3 => ?_) (fun h3 => ?_)
              · have h3 : bq.toNat = 48 := by simp at h3; omega
                rw [if_pos ⟨rfl, h2, by rw [hbq']; exact h3⟩] at hK
                simp -dsimp only [↓reduceIte, go_sem, t0, t1, t7, t8]
                exact hK
              · have h3 : ¬ bq.toNat = 48 := by simp at h3; omega
                have hno : ¬ (true = true ∧ e = q + 1 ∧ bAt s q = 48) := by rw [hbq']; simp [h3]
                simp -dsimp only [↓reduceIte, go_sem, t0, t1, t7, t8]
                refine boolW_split (fun h4 => ?_) (fun h4 => ?_)
                · have h4 : ¬ v ≤ most := by simp at h4; omega
                  simp -dsimp only [↓reduceIte, go_sem, t0, t1, t7, t8]
                  exact big h4 hno
                · have h4 : v ≤ most := by simp at h4; omega
                  simp -dsimp only [↓reduceIte, go_sem, t0, t1, t7, t8]
                  have h5 := fine h4 hno
                  rw [wrap_i64 (n := (e : Int) + 1) (by omega) (by omega)]
                  rw [show IntKind.i64.wrap (IntKind.u64.wrap (0 - ((v % 18446744073709551616 : Nat) : Int))) = -(v : Int) by rw [IntKind.wrap_i64, IntKind.wrap_u64]; omega]
                  exact h5
            · have h2 : ¬ e = q + 1 := by simp at h2; omega
              have hno : ¬ (true = true ∧ e = q + 1 ∧ bAt s q = 48) := by simp [h2]
              simp -dsimp only [↓reduceIte, go_sem, t0, t1, t7, t8]
              refine boolW_split (fun h4 => ?_) (fun h4 => ?_)
              · have h4 : ¬ v ≤ most := by simp at h4; omega
                simp -dsimp only [↓reduceIte, go_sem, t0, t1, t7, t8]
                exact big h4 hno
              · have h4 : v ≤ most := by simp at h4; omega
                simp -dsimp only [↓reduceIte, go_sem, t0, t1, t7, t8]
                have h5 := fine h4 hno
                rw [wrap_i64 (n := (e : Int) + 1) (by omega) (by omega)]
                rw [show IntKind.i64.wrap (IntKind.u64.wrap (0 - ((v % 18446744073709551616 : Nat) : Int))) = -(v : Int) by rw [IntKind.wrap_i64, IntKind.wrap_u64]; omega]
                exact h5
      simp -dsimp only [↓reduceIte, go_sem, t0, t1, t7, t8]
      cases low with
      | false =>
        simp -dsimp only [↓reduceIte, go_sem, t0, t1, t7, t8]
        refine tail2 _ p _ rfl rfl ?_ ?_ ?_ ?_ <;> simp only [go_sem, t0, t1, t7, t8]
        rfl
      | true =>
        have := hlp rfl
        simp -dsimp only [↓reduceIte, go_sem, t0, t1, t7, t8]
        rw [wrap_i64 (by omega) (by omega), wrap_u64 (by omega) (by omega)]
        refine tail2 _ (p + 1) _ rfl rfl ?_ ?_ ?_ ?_ <;> simp only [go_sem, t0, t1, t7, t8]
        · rfl
        · rfl
    simp -dsimp only [↓reduceIte, go_sem, t0, t1]
    refine arr_intro fun _ => ?_
    simp -dsimp only [↓reduceIte, go_sem, t0, t1]
    refine guardV_split (fun h1 => ?_) (fun h1 => ?_) <;> (try rw [h1])
    · have h1 : p < s.length := by simp at h1; omega
      obtain ⟨b, hb⟩ := get_lt h1
      simp -dsimp only [↓reduceIte, go_sem, t0, t1]
      refine nth_get hb ?_
      simp -dsimp only [↓reduceIte, go_sem, t0, t1]
      refine tail _ ?_ ?_ ?_ ?_ <;> simp only [go_sem, t0, t1]
      congr 1
      rw [lowB, bAt_of hb, Bool.eq_iff_iff]
      simp [h1]
      omega
    · have h1 : ¬ p < s.length := by simp at h1; omega
      simp -dsimp only [↓reduceIte, go_sem, t0, t1]
      refine tail _ ?_ ?_ ?_ ?_ <;> simp only [go_sem, t0, t1]
      simp [lowB, h1]
  have bad : i < 0 ∨ (s.length : Int) < i → K (tup3 (0, 0, 3)) σ := fun h => by
    rw [numR, if_pos h] at hK; exact hK
  simp -dsimp only [↓reduceIte, go_sem]
  refine guardV_split (fun h1 => ?_) (fun h1 => ?_) <;> (try rw [h1])
  · have h1 : ¬ i < 0 := by simpa using h1
    simp -dsimp only [↓reduceIte, go_sem]
    refine arr_intro fun _ => ?_
    simp -dsimp only [↓reduceIte, go_sem]
    refine boolW_split (fun h2 => ?_) (fun h2 => ?_)
    · have h2 : (s.length : Int) < i := by simpa using h2
      simp -dsimp only [↓reduceIte, go_sem]
      exact bad (.inr h2)
    · have h2 : ¬ (s.length : Int) < i := by simpa using h2
      simp -dsimp only [↓reduceIte, go_sem]
      refine go _ ?_ ?_ (by omega) <;> simp only [go_sem]
  · have h1 : i < 0 := by simpa using h1
    simp -dsimp only [↓reduceIte, go_sem]
    exact bad (.inl h1)
end Go.Aff.L01

namespace Go.Aff.L01
open Go.Proofs Go.Aff
set_option maxRecDepth 20000
end Go.Aff.L01

namespace Go.Aff.L01
open Go.Proofs Go.Aff
set_option maxRecDepth 20000
attribute [local go_sem] Tryz.underlying9

theorem end_c {s : List UInt8} {p : Nat} (hp : p ≤ s.length) {σ : AST} {K : AV → AST → Prop} (hK : K (.int .i64 (dend s p : Nat)) σ) : TCalls Tryz.prog 123 [.str s, .int .i64 p] σ K := by
  refine tcalls_walk Tryz.f123 _ [.tmp 4] Tryz.func123 rfl rfl rfl mixed (Nat.le_of_ble_eq_true rfl) rfl fun hlen => ?_
  have hs : s.length ≤ 9223372036854775807 := hlen (.str s) (by simp)
  have hde := dend_le hp
  have hdd : dend s p = p + (digs s p).length := rfl
  generalize hD : digs s p = D at *
  generalize hE : dend s p = E at *
  simp -dsimp only [↓reduceIte, go_sem]
  refine awp_rounds (fun (k : Nat) τ s' => s' = σ ∧ τ 0 = .str s ∧ τ 1 = .int .i64 (p + k : Nat) ∧ k ≤ D.length) (fun k => D.length - k) 0 ?_ ?_
  · refine ⟨rfl, ?_, ?_, by omega⟩ <;> simp only [go_sem] <;> rfl
  · rintro k τ s' ⟨rfl, h0, h1, hk⟩
    have hat := digs_at (s := s) (p := p) (k := k) (by rw [hD]; exact hk)
    rw [hD] at hat
    have fin : k = D.length → K (.int .i64 (p + k : Nat)) s' := by
      intro e; subst e; rw [hdd] at hK; exact hK
    have hfin0 : s.length ≤ p + k → k = D.length := fun h => by
      have : ¬ k < D.length := fun hlt => by
        obtain ⟨b, hb, _⟩ := hat.1 hlt
        have := (List.getElem?_eq_some_iff.1 hb).1; omega
      omega
    have hfin1 : ∀ b, s[p + k]? = some b → ¬ (48 ≤ b.toNat ∧ b.toNat ≤ 57) → k = D.length := fun b hb hn => by
      have : ¬ k < D.length := fun hlt => by
        obtain ⟨b', hb', hd⟩ := hat.1 hlt
        rw [hb] at hb'; cases hb'
        simp [isD] at hd; exact hn hd
      omega
    simp -dsimp only [↓reduceIte, go_sem, h0, h1]
    refine arr_intro fun _ => ?_
    simp -dsimp only [↓reduceIte, go_sem, h0, h1]
    refine guardV_split (fun hb => ?_) (fun hb => ?_) <;> (try rw [hb])
    · obtain ⟨b, hbi⟩ := get_lt (l := s) (i := p + k) (by simp at hb; omega)
      simp -dsimp only [↓reduceIte, go_sem, h0, h1]
      refine nth_get hbi ?_
      simp -dsimp only [↓reduceIte, go_sem, h0, h1]
      refine guardV_split (fun hb1 => ?_) (fun hb1 => ?_) <;> (try rw [hb1])
      · simp -dsimp only [↓reduceIte, go_sem, h0, h1]
        refine nth_get hbi ?_
        simp -dsimp only [↓reduceIte, go_sem, h0, h1]
        refine boolW_split (fun hb2 => ?_) (fun hb2 => ?_)
        · simp at hb1 hb2
          have hlt : k < D.length := hat.2 ⟨b, hbi, by simp [isD]; omega⟩
          have hpk : IntKind.i64.wrap (((p + k : Nat) : Int) + 1) = ((p + (k + 1) : Nat) : Int) := by rw [wrap_i64 (by omega) (by omega)]; omega
          simp -dsimp only [↓reduceIte, go_sem, h0, h1]
          refine later_intro ⟨k + 1, by omega, rfl, ?_, ?_, by omega⟩ <;> simp only [go_sem, h0, h1]
          rw [hpk]
        · simp -dsimp only [↓reduceIte, go_sem, h0, h1]
          exact fin (hfin1 b hbi (by simp at hb2; omega))
      · simp -dsimp only [↓reduceIte, go_sem, h0, h1]
        exact fin (hfin1 b hbi (by simp at hb1; omega))
    · simp -dsimp only [↓reduceIte, go_sem, h0, h1]
      exact fin (hfin0 (by simp at hb; omega))

theorem bad_c {s : List UInt8} {p e last : Nat} (hp : p ≤ e) (he : e ≤ s.length) {σ : AST} {K : AV → AST → Prop} (hK : K (.int .i64 (shapeS s p e last)) σ) : TCalls Tryz.prog 124 [.str s, .int .i64 p, .int .i64 e, .int .u8 last] σ K := by
  refine tcalls_walk Tryz.f124 _ [.tmp 8] Tryz.func124 rfl rfl rfl mixed (Nat.le_of_ble_eq_true rfl) rfl fun hlen => ?_
  have hs : s.length ≤ 9223372036854775807 := hlen (.str s) (by simp)
  unfold shapeS at hK
  simp -dsimp only [↓reduceIte, go_sem]
  refine arr_intro fun _ => ?_
  simp -dsimp only [↓reduceIte, go_sem]
  refine boolW_split (fun hb => ?_) (fun hb => ?_)
  · have hb : e = s.length := by simp at hb; omega
    rw [if_pos hb] at hK
    simp -dsimp only [↓reduceIte, go_sem]
    exact hK
  · have hb : ¬ e = s.length := by simp at hb; omega
    rw [if_neg hb] at hK
    obtain ⟨be, hbe⟩ := get_lt (l := s) (i := e) (by omega)
    rw [bAt_of hbe] at hK
    simp -dsimp only [↓reduceIte, go_sem]
    refine guardV_split (fun h1 => ?_) (fun h1 => ?_) <;> (try rw [h1])
    · have h1 : ¬ e = p := by simp at h1; omega
      obtain ⟨bp, hbp⟩ := get_lt (l := s) (i := p) (by omega)
      rw [bAt_of hbp] at hK
      simp -dsimp only [↓reduceIte, go_sem]
      refine nth_get hbe ?_
      simp -dsimp only [↓reduceIte, go_sem]
      refine boolW_split (fun h2 => ?_) (fun h2 => ?_)
      · have h2 : ¬ be.toNat = last := by simp at h2; omega
        rw [if_pos (.inr (.inl h2))] at hK
        simp -dsimp only [↓reduceIte, go_sem]
        exact hK
      · have h2 : be.toNat = last := by simp at h2; omega
        simp -dsimp only [↓reduceIte, go_sem]
        rw [wrap_i64 (by omega) (by omega)]
        refine guardV_split (fun h3 => ?_) (fun h3 => ?_) <;> (try rw [h3])
        · have h3 : 1 < e - p := by simp at h3; omega
          simp -dsimp only [↓reduceIte, go_sem]
          refine nth_get hbp ?_
          simp -dsimp only [↓reduceIte, go_sem]
          refine boolW_split (fun h4 => ?_) (fun h4 => ?_)
          · have h4 : bp.toNat = 48 := by simp at h4; omega
            rw [if_pos (.inr (.inr ⟨h3, h4⟩))] at hK
            simp -dsimp only [↓reduceIte, go_sem]
            exact hK
          · have h4 : ¬ bp.toNat = 48 := by simp at h4; omega
            rw [if_neg (by omega)] at hK
            simp -dsimp only [↓reduceIte, go_sem]
            exact hK
        · have h3 : ¬ 1 < e - p := by simp at h3; omega
          rw [if_neg (by omega)] at hK
          simp -dsimp only [↓reduceIte, go_sem]
          exact hK
    · have h1 : e = p := by simp at h1; omega
      rw [if_pos (.inl h1)] at hK
      simp -dsimp only [↓reduceIte, go_sem]
      exact hK
end Go.Aff.L01

namespace Go.Aff.L01
open Go.Aff

theorem toNat_ofNat {n : Nat} (h : n < 256) : (UInt8.ofNat n).toNat = n := by simp [UInt8.toNat_ofNat']; omega

theorem dg_isD : ∀ (n : Nat), ∀ b ∈ dg n, isD b = true := by
  intro n
  induction n using Nat.strongRecOn with
  | ind n ih =>
  intro b hb
  by_cases h : n < 10
  · rw [dg_small h] at hb; simp at hb; subst hb
    simp only [isD, toNat_ofNat (show 48 + n < 256 by omega)]; simp; omega
  · rw [dg_big h] at hb
    rcases List.mem_append.1 hb with hb | hb
    · exact ih (n / 10) (by omega) b hb
    · simp at hb; subst hb
      have := toNat_ofNat (show 48 + n % 10 < 256 by omega)
      simp only [isD, this]; simp; omega

theorem val_dg : ∀ (n : Nat), val (dg n) = n := by
  intro n
  induction n using Nat.strongRecOn with
  | ind n ih =>
  by_cases h : n < 10
  · rw [dg_small h]
    have := toNat_ofNat (show 48 + n < 256 by omega)
    simp only [val, List.foldl_cons, List.foldl_nil, this]; omega
  · rw [dg_big h, val_snoc, ih (n / 10) (by omega), toNat_ofNat (by omega)]; omega

theorem dg_ne {n : Nat} : dg n ≠ [] := by
  by_cases h : n < 10
  · rw [dg_small h]; simp
  · rw [dg_big h]; simp


theorem digs_laid {x y : List UInt8} {c : UInt8} (n : Nat) (hc : isD c = false) : digs (x ++ (dg n ++ c :: y)) x.length = dg n := by
  unfold digs
  rw [List.drop_left, List.takeWhile_append_of_pos (dg_isD n)]
  rw [List.takeWhile_cons_of_neg (by simp [hc])]; simp
theorem dend_laid {x y : List UInt8} {c : UInt8} (n : Nat) (hc : isD c = false) : dend (x ++ (dg n ++ c :: y)) x.length = x.length + (dg n).length := by
  unfold dend; rw [digs_laid n hc]
theorem bAt_left {x y : List UInt8} {c : UInt8} : bAt (x ++ c :: y) x.length = c.toNat := by simp [bAt]
theorem bAt_end {x l y : List UInt8} {c : UInt8} : bAt (x ++ (l ++ c :: y)) (x.length + l.length) = c.toNat := by
  rw [← List.append_assoc, ← List.length_append]; exact bAt_left

theorem dg_head : ∀ (n : Nat), 0 < n → ∃ b r, dg n = b :: r ∧ b.toNat ≠ 48 := by
  intro n
  induction n using Nat.strongRecOn with
  | ind n ih =>
  intro hn
  by_cases h : n < 10
  · rw [dg_small h]
    exact ⟨_, [], rfl, by rw [toNat_ofNat (by omega)]; omega⟩
  · obtain ⟨b, r, hb, h48⟩ := ih (n / 10) (by omega) (by omega)
    rw [dg_big h, hb]
    exact ⟨b, _, rfl, h48⟩
theorem dg_zero : dg 0 = [48] := by rw [dg_small (by decide)]; rfl

theorem shape_laid {x y : List UInt8} {c : UInt8} (n : Nat) (hc : isD c = false) : shapeS (x ++ (dg n ++ c :: y)) x.length (x.length + (dg n).length) c.toNat = 0 := by
  have hne : 0 < (dg n).length := List.length_pos_iff.2 dg_ne
  unfold shapeS
  rw [if_neg (by simp), if_neg]
  rintro (h | h | ⟨h1, h2⟩)
  · omega
  · exact h bAt_end
  · by_cases hn : n = 0
    · subst hn; rw [dg_zero] at h1; simp at h1
    · obtain ⟨b, r, hb, h48⟩ := dg_head n (by omega)
      rw [hb, List.cons_append, bAt_left] at h2
      exact h48 h2

theorem num_back {x y : List UInt8} {n : Int} (h0 : -9223372036854775808 ≤ n) (h1 : n ≤ 9223372036854775807) : numP (x ++ (numS n ++ y)) x.length = (n, ((x.length + (numS n).length : Nat) : Int), 0) := by
  have c59 : isD 59 = false := by decide
  by_cases hn : n < 0
  · have e : x ++ (numS n ++ y) = (x ++ [45]) ++ (dg n.natAbs ++ 59 :: y) := by simp [numS, hn]
    have hl : (x ++ [(45 : UInt8)]).length = x.length + 1 := by simp
    have low : lowB (x ++ (numS n ++ y)) x.length = true := by
      rw [lowB, show x ++ (numS n ++ y) = x ++ 45 :: (dg n.natAbs ++ 59 :: y) by simp [numS, hn], bAt_left]; simp
    have hd := dend_laid (x := x ++ [45]) (y := y) (c := 59) n.natAbs c59
    have hg := digs_laid (x := x ++ [45]) (y := y) (c := 59) n.natAbs c59
    have hsh := shape_laid (x := x ++ [45]) (y := y) (c := 59) n.natAbs c59
    rw [numP, low]
    simp only [if_true]
    rw [numT, e]
    rw [hl] at hd hg hsh
    rw [hd, hg, val_dg]
    rw [show (59 : UInt8).toNat = 59 from rfl] at hsh
    rw [if_neg (not_not_intro hsh)]
    obtain ⟨b, r, hb, h48⟩ := dg_head n.natAbs (by omega)
    have hbq : bAt ((x ++ [45]) ++ (dg n.natAbs ++ 59 :: y)) (x.length + 1) ≠ 48 := by
      rw [hb, ← hl, List.cons_append, bAt_left]; exact h48
    rw [if_neg (fun h => hbq h.2.2), if_neg (by omega)]
    simp only [if_true, numS, if_pos hn, List.length_append, List.length_cons, List.length_nil, Prod.mk.injEq]
    exact ⟨by omega, by omega, trivial⟩
  · have e : x ++ (numS n ++ y) = x ++ (dg n.natAbs ++ 59 :: y) := by simp [numS, hn]
    have low : lowB (x ++ (numS n ++ y)) x.length = false := by
      obtain ⟨b, r, hb⟩ := List.exists_cons_of_ne_nil (dg_ne (n := n.natAbs))
      have hbd := dg_isD n.natAbs b (by rw [hb]; simp)
      rw [lowB, e, hb, List.cons_append, bAt_left]
      simp [isD] at hbd
      simp; omega
    have hd := dend_laid (x := x) (y := y) (c := 59) n.natAbs c59
    have hg := digs_laid (x := x) (y := y) (c := 59) n.natAbs c59
    have hsh := shape_laid (x := x) (y := y) (c := 59) n.natAbs c59
    rw [numP, low]
    simp only [Bool.false_eq_true, if_false]
    rw [numT, e, hd, hg, val_dg]
    rw [show (59 : UInt8).toNat = 59 from rfl] at hsh
    rw [if_neg (not_not_intro hsh), if_neg (by simp), if_neg (by omega)]
    simp only [Bool.false_eq_true, if_false, numS, if_neg hn, List.length_append, List.length_cons, List.length_nil, Prod.mk.injEq]
    exact ⟨by omega, by omega, trivial⟩


theorem ofNat_digit {b : UInt8} (h : isD b = true) : UInt8.ofNat (48 + (b.toNat - 48)) = b := by
  simp [isD] at h
  rw [show 48 + (b.toNat - 48) = b.toNat by omega]
  simp

theorem dg_val_rev : ∀ (r : List UInt8), r ≠ [] → (∀ b ∈ r, isD b = true) → (∀ b, r.getLast? = some b → 1 < r.length → b.toNat ≠ 48) → dg (val r.reverse) = r.reverse ∧ (1 < r.length ∨ (∀ b ∈ r, b.toNat ≠ 48) → 0 < val r.reverse)
  | [], h, _, _ => absurd rfl h
  | [b], _, hd, _ => by
    have hb := hd b (by simp)
    have h48 : 48 ≤ b.toNat ∧ b.toNat ≤ 57 := by simpa [isD] using hb
    have hv : val [b] = b.toNat - 48 := by simp [val]
    simp only [List.reverse_singleton, hv]
    refine ⟨?_, ?_⟩
    · rw [dg_small (by omega), ofNat_digit hb]
    · rintro (h | h)
      · simp at h
      · have := h b (by simp); omega
  | b :: c :: r, _, hd, hl => by
    have hb := hd b (by simp)
    have h48 : 48 ≤ b.toNat ∧ b.toNat ≤ 57 := by simpa [isD] using hb
    have hlast : ∀ x, (c :: r).getLast? = some x → x.toNat ≠ 48 := fun x hx => hl x (by simpa using hx) (by simp)
    obtain ⟨ih, ihp⟩ := dg_val_rev (c :: r) (by simp) (fun x hx => hd x (by simp [hx])) (fun x hx _ => hlast x hx)
    have hpos : 0 < val (c :: r).reverse := by
      apply ihp
      cases r with
      | nil => exact .inr fun x hx => by simp at hx; subst hx; exact hlast x rfl
      | cons _ _ => exact .inl (by simp)
    have hv : val (b :: c :: r).reverse = val (c :: r).reverse * 10 + (b.toNat - 48) := by rw [List.reverse_cons, val_snoc]
    rw [hv]
    refine ⟨?_, fun _ => by omega⟩
    rw [dg_big (by omega), show (val (c :: r).reverse * 10 + (b.toNat - 48)) / 10 = val (c :: r).reverse by omega, ih,
      show (val (c :: r).reverse * 10 + (b.toNat - 48)) % 10 = b.toNat - 48 by omega, ofNat_digit hb]
    simp

theorem dg_val {D : List UInt8} (h0 : D ≠ []) (hd : ∀ b ∈ D, isD b = true) (hh : ∀ b, D.head? = some b → 1 < D.length → b.toNat ≠ 48) : dg (val D) = D := by
  have := (dg_val_rev D.reverse (by simpa using h0) (fun b hb => hd b (by simpa using hb)) (fun b hb hl => hh b (by simpa using hb) (by simpa using hl))).1
  simpa using this

theorem digs_isD {s : List UInt8} {p : Nat} : ∀ b ∈ digs s p, isD b = true := fun b hb => by
  unfold digs at hb
  generalize s.drop p = l at hb
  induction l with
  | nil => simp at hb
  | cons a l ih =>
    by_cases ha : isD a = true
    · rw [List.takeWhile_cons_of_pos ha] at hb
      rcases List.mem_cons.1 hb with rfl | hb
      · exact ha
      · exact ih hb
    · rw [List.takeWhile_cons_of_neg ha] at hb; simp at hb

theorem shape_lt {s : List UInt8} {p e last : Nat} (h : shapeS s p e last = 0) (he : e ≤ s.length) : e < s.length ∧ e ≠ p := by
  unfold shapeS at h
  split at h
  · cases h
  · split at h
    · cases h
    · omega
theorem drop_tw {p : UInt8 → Bool} : ∀ (l : List UInt8), l.drop (l.takeWhile p).length = l.dropWhile p
  | [] => rfl
  | a :: l => by
    by_cases ha : p a = true
    · rw [List.takeWhile_cons_of_pos ha, List.dropWhile_cons_of_pos ha]; simpa using drop_tw l
    · rw [List.takeWhile_cons_of_neg ha, List.dropWhile_cons_of_neg ha]; rfl
theorem digs_split {s : List UInt8} {p : Nat} : s.drop p = digs s p ++ s.drop (dend s p) := by
  have h := List.takeWhile_append_dropWhile (p := isD) (l := s.drop p)
  rw [← drop_tw, List.drop_drop] at h
  exact h.symm

theorem bAt_some {s : List UInt8} {i : Nat} {c : UInt8} (hi : i < s.length) (h : bAt s i = c.toNat) : s[i]? = some c := by
  obtain ⟨b, hb⟩ := get_lt hi
  rw [bAt_of hb] at h
  rw [hb]; congr 1; exact UInt8.toNat_inj.1 h

theorem shape_once {s : List UInt8} {p : Nat} {c : UInt8} (hp : p ≤ s.length) (h : shapeS s p (dend s p) c.toNat = 0) : s.drop p = dg (val (digs s p)) ++ c :: s.drop (dend s p + 1) := by
  have hel := dend_le hp
  have hD : dend s p = p + (digs s p).length := rfl
  unfold shapeS at h
  split at h
  · cases h
  · split at h
    · cases h
    · rename_i h1 h2
      have hlt : dend s p < s.length := by omega
      have hc := bAt_some (c := c) hlt (by apply Classical.byContradiction; intro hh; exact h2 (.inr (.inl hh)))
      have hne : digs s p ≠ [] := fun hh => h2 (.inl (by rw [hD, hh]; rfl))
      rw [dg_val hne digs_isD ?_]
      · have e : s.drop (dend s p) = c :: s.drop (dend s p + 1) := by
          rw [List.drop_eq_getElem_cons hlt]; congr 1
          rw [List.getElem?_eq_getElem hlt] at hc; exact Option.some.inj hc
        rw [← e]; exact digs_split
      · intro b hb hl h48
        apply h2
        refine .inr (.inr ⟨by omega, ?_⟩)
        have : (digs s p)[0]? = some b := by rw [← List.head?_eq_getElem?]; exact hb
        rw [digs_get (by omega)] at this
        rw [bAt_of (by simpa using this)]; exact h48

theorem num_once {s : List UInt8} {p : Nat} {n nx : Int} (hp : p ≤ s.length) (h : numP s p = (n, nx, 0)) :
    s.drop p = numS n ++ s.drop nx.toNat ∧ nx = ((p + (numS n).length : Nat) : Int) ∧ -9223372036854775808 ≤ n ∧ n ≤ 9223372036854775807 := by
  have hl : lowB s p = true → p < s.length ∧ bAt s p = 45 := fun h => by simpa [lowB] using h
  unfold numP at h
  generalize hw : lowB s p = low at *
  cases low with
  | false =>
    simp only [Bool.false_eq_true, if_false] at h
    unfold numT at h
    simp only [Bool.false_eq_true, false_and, if_false] at h
    split at h
    · simp only [Prod.mk.injEq] at h; rename_i h0; exact absurd h.2.2 h0
    · rename_i h0
      split at h
      · simp at h
      · rename_i hm
        simp only [Prod.mk.injEq, and_true] at h
        obtain ⟨rfl, rfl⟩ := h
        have h1 := shape_once (c := 59) hp (Classical.not_not.1 h0)
        have hlen := congrArg List.length h1
        have hns : numS (val (digs s p) : Int) = dg (val (digs s p)) ++ [59] := by simp [numS]
        have hD : dend s p = p + (digs s p).length := rfl
        have hel := dend_le hp
        rw [hns]
        simp only [List.length_append, List.length_cons, List.length_drop, List.length_nil] at hlen ⊢
        have hok := shape_lt (Classical.not_not.1 h0) hel
        refine ⟨?_, by omega, by omega, by omega⟩
        rw [show ((dend s p : Int) + 1).toNat = dend s p + 1 by omega]
        rw [h1]; simp
  | true =>
    obtain ⟨hpl, h45⟩ := hl rfl
    simp only [if_true] at h
    unfold numT at h
    simp only [true_and, if_true] at h
    split at h
    · simp only [Prod.mk.injEq] at h; rename_i h0; exact absurd h.2.2 h0
    · rename_i h0
      split at h
      · simp at h
      · rename_i hz
        split at h
        · simp at h
        · rename_i hm
          simp only [Prod.mk.injEq, and_true] at h
          obtain ⟨rfl, rfl⟩ := h
          have h1 := shape_once (s := s) (c := 59) (p := p + 1) (by omega) (Classical.not_not.1 h0)
          have hel := dend_le (s := s) (p := p + 1) (by omega)
          have hok := shape_lt (Classical.not_not.1 h0) hel
          have hD : dend s (p + 1) = p + 1 + (digs s (p + 1)).length := rfl
          have hpos : 0 < val (digs s (p + 1)) := by
            apply Nat.pos_of_ne_zero; intro hv
            rw [hv, dg_zero] at h1
            have hlen := congrArg List.length h1
            simp only [List.length_append, List.length_cons, List.length_drop, List.length_nil] at hlen
            apply hz
            refine ⟨by omega, ?_⟩
            have : (s.drop (p + 1))[0]? = some 48 := by rw [h1]; rfl
            rw [List.getElem?_drop] at this
            rw [bAt_of (by simpa using this)]; rfl
          have hns : numS (-(val (digs s (p + 1)) : Int)) = 45 :: (dg (val (digs s (p + 1))) ++ [59]) := by
            unfold numS; rw [if_pos (by omega), show (-(val (digs s (p + 1)) : Int)).natAbs = val (digs s (p + 1)) by omega]; simp
          have e : s.drop p = 45 :: s.drop (p + 1) := by
            have hc := bAt_some (c := 45) hpl h45
            rw [List.drop_eq_getElem_cons hpl]; congr 1
            rw [List.getElem?_eq_getElem hpl] at hc; exact Option.some.inj hc
          have hlen := congrArg List.length h1
          rw [hns]
          simp only [List.length_append, List.length_cons, List.length_drop, List.length_nil] at hlen ⊢
          refine ⟨?_, by omega, by omega, by omega⟩
          rw [show ((dend s (p + 1) : Int) + 1).toNat = dend s (p + 1) + 1 by omega]
          rw [e, h1]; simp
end Go.Aff.L01

namespace Go.Aff.L01
open Go.Proofs Go.Aff
set_option maxRecDepth 20000
attribute [local go_sem] Tryz.underlying3 Tryz.underlying5 Tryz.underlying9 Tryz.underlying197

theorem val_mono {D : List UInt8} : ∀ (k : Nat), val (D.take k) ≤ val D := by
  intro k
  by_cases h : D.length ≤ k
  · rw [List.take_of_length_le h]; exact Nat.le_refl _
  · induction hn : D.length - k generalizing k with
    | zero => omega
    | succ n ih =>
      obtain ⟨b, hb⟩ := get_lt (l := D) (i := k) (by omega)
      have h1 := val_take_succ hb
      by_cases h2 : D.length ≤ k + 1
      · rw [List.take_of_length_le h2] at h1; omega
      · have := ih (k + 1) h2 (by omega); omega

theorem one_zero {s : List UInt8} {q e : Nat} (h1 : q < e) (h2 : e ≤ s.length) : ((s.take e).drop q == [48]) = decide (e = q + 1 ∧ bAt s q = 48) := by
  obtain ⟨b, hb⟩ := get_lt (l := s) (i := q) (by omega)
  have hd : s.drop q = b :: s.drop (q + 1) := by
    rw [List.drop_eq_getElem_cons (by omega)]; congr 1
    rw [List.getElem?_eq_getElem (by omega)] at hb; exact Option.some.inj hb
  rw [bAt_of hb, Bool.eq_iff_iff, beq_iff_eq, decide_eq_true_eq, List.drop_take, hd]
  constructor
  · intro h
    have hl := congrArg List.length h
    simp only [List.length_take, List.length_cons, List.length_drop, List.length_nil] at hl
    have e1 : e = q + 1 := by omega
    refine ⟨e1, ?_⟩
    rw [e1, show q + 1 - q = 1 by omega] at h
    simp at h; rw [h]; rfl
  · rintro ⟨rfl, h⟩
    rw [show q + 1 - q = 1 by omega]
    simp; exact UInt8.toNat_inj.1 h

theorem ReadNumber_c {s : List UInt8} {i : Int} (hi0 : -9223372036854775808 ≤ i) (hi1 : i ≤ 9223372036854775807) {σ : AST} {K : AV → AST → Prop}
    (hK : K (tup3 (numR s i)) σ) : TCalls Tryz.prog 87 [.str s, .int .i64 i] σ K := by
  refine tcalls_walk Tryz.f87 _ [.tmp 4, .tmp 5, .tmp 6] Tryz.func87 rfl rfl rfl mixed (Nat.le_of_ble_eq_true rfl) rfl fun hlen => ?_
  have hs : s.length ≤ 9223372036854775807 := hlen (.str s) (by simp)
  refine awp_seq_k fun KA hKA => ?_
  simp -dsimp only [↓reduceIte, go_sem]
  refine hKA _ _ (awp_seq_k fun KB hKB => ?_)
  have go : ∀ τ : Env, τ 0 = .str s → τ 1 = .int .i64 i → ¬ (i < 0 ∨ (s.length : Int) < i) → KB τ σ := by
    intro τ t0 t1 hok
    have hi : (i.toNat : Int) = i := by omega
    rw [numR, if_neg hok] at hK
    generalize hp : i.toNat = p at hi hK
    have hpl : p ≤ s.length := by omega
    rw [← hi] at t1
    refine hKB _ _ (awp_seq_k fun KC hKC => ?_)
    simp -dsimp only [↓reduceIte, go_sem, t0, t1]
    refine hKC _ _ (awp_seq_k fun KD hKD => ?_)
    rw [numP] at hK
    have hlp : lowB s p = true → p < s.length := fun h => by simp [lowB] at h; exact h.1
    generalize hlow : lowB s p = low at *
    have tail : ∀ (τ : Env) (q most : Nat), q = (if low then p + 1 else p) → most = (if low then 9223372036854775808 else 9223372036854775807) → τ 0 = .str s → τ 1 = .int .i64 p → τ 7 = .int .i64 q → KD τ σ := by
      intro τ q most hq hmost t0 t1 t7
      have hql : q ≤ s.length := by
        rw [hq]; split
        · rename_i h; have := hlp h; omega
        · exact hpl
      have hqp : (low = true → q = p + 1 ∧ most = 9223372036854775808) ∧ (low = false → q = p ∧ most = 9223372036854775807) := by rw [hq, hmost]; cases low <;> simp
      have hel := dend_le hql
      have heq : q ≤ dend s q := by unfold dend; omega
      rw [← hq, ← hmost, numT] at hK
      refine hKD _ _ (awp_seq_k fun KE hKE => ?_)
      simp -dsimp only [↓reduceIte, go_sem, t0, t1, t7]
      refine end_c hql ?_
      simp -dsimp only [↓reduceIte, go_sem, t0, t1, t7]
      refine hKE _ _ (awp_seq_k fun KF hKF => ?_)
      simp -dsimp only [↓reduceIte, go_sem, t0, t1, t7]
      refine bad_c (last := 59) heq hel ?_
      simp -dsimp only [↓reduceIte, go_sem, t0, t1, t7]
      refine hKF _ _ (awp_seq_k fun KG hKG => ?_)
      generalize hsh : shapeS s q (dend s q) 59 = sh at *
      simp -dsimp only [↓reduceIte, go_sem, t0, t1, t7]
      refine boolW_split (fun h1 => ?_) (fun h1 => ?_)
      · have h1 : sh ≠ 0 := by simpa using h1
        rw [if_pos h1] at hK
        simp -dsimp only [↓reduceIte, go_sem, t0, t1, t7]
        exact hK
      · have h1 : sh = 0 := by simpa using h1
        rw [if_neg (by simp [h1])] at hK
        rw [h1] at hsh
        have hlt := shape_ok hsh hel
        have hee : dend s q = q + (digs s q).length := rfl
        have hDg : ∀ k, k < (digs s q).length → (digs s q)[k]? = s[q + k]? := fun k hk => digs_get hk
        have hDd : ∀ b ∈ digs s q, 48 ≤ b.toNat ∧ b.toNat ≤ 57 := fun b hb => by have := digs_isD b hb; simpa [isD] using this
        generalize hD : digs s q = D at *
        generalize hE : dend s q = e at *
        have big : most < val D → ¬ (low = true ∧ e = q + 1 ∧ bAt s q = 48) → K (tup3 (0, 0, 4)) σ := fun h h2 => by
          rw [if_neg h2, if_pos h] at hK; exact hK
        have fine : ¬ most < val D → ¬ (low = true ∧ e = q + 1 ∧ bAt s q = 48) → K (tup3 (if low then -(val D : Int) else (val D : Int), (e : Int) + 1, 0)) σ := fun h h2 => by
          rw [if_neg h2, if_neg h] at hK; exact hK
        simp -dsimp only [↓reduceIte, go_sem, t0, t1, t7]
        refine hKG _ _ (awp_seq_k fun KH hKH => ?_)
        have rest : ∀ τ : Env, τ 0 = .str s → τ 1 = .int .i64 p → τ 7 = .int .i64 q → τ 8 = .int .i64 e → ¬ (low = true ∧ e = q + 1 ∧ bAt s q = 48) → KH τ σ := by
          intro τ t0 t1 t7 t8 hno
          refine hKH _ _ ?_
          simp -dsimp only [↓reduceIte, go_sem, t0, t1, t7, t8]
          refine awp_rounds (fun (k : Nat) τ s' => s' = σ ∧ τ 0 = .str s ∧ τ 1 = .int .i64 p ∧ τ 7 = .int .i64 q ∧ τ 8 = .int .i64 e ∧ τ 11 = .int .i64 (q + k : Nat) ∧ k ≤ D.length ∧ τ 10 = .int .i64 (-(val (D.take k) : Int)) ∧ val (D.take k) ≤ 9223372036854775808) (fun k => D.length - k) 0 ?_ ?_
          · refine ⟨rfl, ?_, ?_, ?_, ?_, ?_, by omega, ?_, by simp [val]⟩ <;> simp only [go_sem, t0, t1, t7, t8] <;> rfl
          · rintro k τ s' ⟨rfl, t0, t1, t7, t8, t11, hk, t10, hv⟩
            simp -dsimp only [↓reduceIte, go_sem, t0, t1, t7, t8, t10, t11]
            refine boolW_split (fun h2 => ?_) (fun h2 => ?_)
            · have h2 : k < D.length := by simp at h2; omega
              obtain ⟨b, hb⟩ := get_lt h2
              have hbs := hDg k h2
              rw [hb] at hbs
              have hbd := hDd b (List.mem_iff_getElem?.2 ⟨k, hb⟩)
              have hval := val_take_succ hb
              simp -dsimp only [↓reduceIte, go_sem, t0, t1, t7, t8, t10, t11]
              refine nth_get hbs.symm ?_
              simp -dsimp only [↓reduceIte, go_sem, t0, t1, t7, t8, t10, t11]
              rw [show IntKind.i64.wrap (IntKind.i64.wrap (b.toNat : Int) - 48) = ((b.toNat - 48 : Nat) : Int) by rw [wrap_i64 (n := (b.toNat : Int)) (by omega) (by omega), wrap_i64 (by omega) (by omega)]; omega]
              have ht := tdiv10_neg (n := -9223372036854775808 + ((b.toNat - 48 : Nat) : Int)) (by omega)
              rw [show IntKind.i64.wrap (-9223372036854775808 + ((b.toNat - 48 : Nat) : Int)) = -9223372036854775808 + ((b.toNat - 48 : Nat) : Int) by rw [wrap_i64 (by omega) (by omega)], ht]
              rw [wrap_i64 (n := -(-(-9223372036854775808 + ((b.toNat - 48 : Nat) : Int)) / 10)) (by omega) (by omega)]
              refine boolW_split (fun h3 => ?_) (fun h3 => ?_)
              · have hm := val_mono (D := D) (k + 1)
                have h3 : most < val D := by simp at h3; rw [hval] at hm; clear hval ht; have : most ≤ 9223372036854775808 := by rw [hmost]; split <;> omega
                                             omega
                simp -dsimp only [↓reduceIte, go_sem, t0, t1, t7, t8, t10, t11]
                exact big h3 hno
              · have h3 : val (D.take (k + 1)) ≤ 9223372036854775808 := by simp at h3; rw [hval]; clear hval ht; omega
                simp -dsimp only [↓reduceIte, go_sem, t0, t1, t7, t8, t10, t11]
                refine later_intro ⟨k + 1, by omega, rfl, ?_, ?_, ?_, ?_, ?_, by omega, ?_, h3⟩ <;> simp only [go_sem, t0, t1, t7, t8, t10, t11]
                · rw [wrap_i64 (by omega) (by omega)]; congr 1
                · rw [wrap_i64 (n := -(val (D.take k) : Int) * 10) (by omega) (by omega), wrap_i64 (by omega) (by omega)]; congr 1; omega
            · have h2 : k = D.length := by simp at h2; omega
              subst h2
              rw [List.take_length] at t10 hv
              simp -dsimp only [↓reduceIte, go_sem, t0, t1, t7, t8, t10, t11]
              have he1 : IntKind.i64.wrap ((e : Int) + 1) = (e : Int) + 1 := wrap_i64 (by omega) (by omega)
              cases low with
              | true =>
                obtain ⟨hq1, hm1⟩ := hqp.1 rfl
                refine boolW_split (fun h3 => ?_) (fun h3 => ?_)
                · simp at h3; omega
                · simp -dsimp only [↓reduceIte, go_sem, t0, t1, t7, t8, t10, t11]
                  rw [he1]
                  have := fine (by omega) hno
                  exact this
              | false =>
                obtain ⟨hq1, hm1⟩ := hqp.2 rfl
                refine boolW_split (fun h3 => ?_) (fun h3 => ?_)
                · simp -dsimp only [↓reduceIte, go_sem, t0, t1, t7, t8, t10, t11]
                  refine boolW_split (fun h4 => ?_) (fun h4 => ?_)
                  · have h4 : most < val D := by simp at h4; omega
                    simp -dsimp only [↓reduceIte, go_sem, t0, t1, t7, t8, t10, t11]
                    exact big h4 hno
                  · have h4 : ¬ most < val D := by simp at h4; omega
                    simp -dsimp only [↓reduceIte, go_sem, t0, t1, t7, t8, t10, t11]
                    rw [he1, wrap_i64 (by omega) (by omega)]
                    have := fine h4 hno
                    rw [show (0 : Int) - -(val D : Int) = (val D : Int) by omega]
                    exact this
                · simp at h3; omega
        simp -dsimp only [↓reduceIte, go_sem, t0, t1, t7]
        refine guardV_split (fun h2 => ?_) (fun h2 => ?_) <;> (try rw [h2])
        · have h2 : p < q := by simp at h2; omega
          have hlow1 : low = true := by
            cases low with
            | true => rfl
            | false => have := (hqp.2 rfl).1; omega
          simp -dsimp only [↓reduceIte, go_sem, t0, t1, t7]
          refine side_later (by omega) ?_
          simp -dsimp only [↓reduceIte, go_sem, t0, t1, t7]
          refine side_later (by omega) ?_
          simp -dsimp only [↓reduceIte, go_sem, t0, t1, t7]
          refine ⟨by omega, by omega, later_intro ?_⟩
          simp -dsimp only [↓reduceIte, go_sem, t0, t1, t7]
          have heq2 : ((s.take e).drop q == [48]) = decide (e = q + 1 ∧ bAt s q = 48) := one_zero (by omega) (by omega)
          rw [heq2]
          refine boolW_split (fun h3 => ?_) (fun h3 => ?_)
          · have h3 : e = q + 1 ∧ bAt s q = 48 := by simpa using h3
            rw [if_pos ⟨hlow1, h3⟩] at hK
            simp -dsimp only [↓reduceIte, go_sem, t0, t1, t7]
            exact hK
          · have h3 : ¬ (e = q + 1 ∧ bAt s q = 48) := by simpa using h3
            simp -dsimp only [↓reduceIte, go_sem, t0, t1, t7]
            refine rest _ ?_ ?_ ?_ ?_ (fun h => h3 h.2) <;> simp only [go_sem, t0, t1, t7]
        · have h2 : ¬ p < q := by simp at h2; omega
          have hlow1 : low = false := by
            cases low with
            | false => rfl
            | true => have := (hqp.1 rfl).1; omega
          simp -dsimp only [↓reduceIte, go_sem, t0, t1, t7]
          refine rest _ ?_ ?_ ?_ ?_ (fun h => by rw [hlow1] at h; cases h.1) <;> simp only [go_sem, t0, t1, t7]
    -- where reading begins
    simp -dsimp only [↓reduceIte, go_sem, t0, t1]
    refine arr_intro fun _ => ?_
    simp -dsimp only [↓reduceIte, go_sem, t0, t1]
    refine guardV_split (fun h1 => ?_) (fun h1 => ?_) <;> (try rw [h1])
    · have h1 : p < s.length := by simp at h1; omega
      obtain ⟨b, hb⟩ := get_lt h1
      simp -dsimp only [↓reduceIte, go_sem, t0, t1]
      refine nth_get hb ?_
      simp -dsimp only [↓reduceIte, go_sem, t0, t1]
      refine boolW_split (fun h2 => ?_) (fun h2 => ?_)
      · have h2 : b.toNat = 45 := by simp at h2; omega
        have hl1 : low = true := by rw [← hlow, lowB, bAt_of hb]; simp [h1, h2]
        simp -dsimp only [↓reduceIte, go_sem, t0, t1]
        rw [wrap_i64 (by omega) (by omega)]
        refine tail _ (p + 1) _ (by rw [hl1]; rfl) rfl ?_ ?_ ?_ <;> simp only [go_sem, t0, t1]
        rfl
      · have h2 : ¬ b.toNat = 45 := by simp at h2; omega
        have hl1 : low = false := by rw [← hlow, lowB, bAt_of hb]; simp [h2]
        simp -dsimp only [↓reduceIte, go_sem, t0, t1]
        refine tail _ p _ (by rw [hl1]; rfl) rfl ?_ ?_ ?_ <;> simp only [go_sem, t0, t1]
    · have h1 : ¬ p < s.length := by simp at h1; omega
      have hl1 : low = false := by rw [← hlow, lowB]; simp [h1]
      simp -dsimp only [↓reduceIte, go_sem, t0, t1]
      refine tail _ p _ (by rw [hl1]; rfl) rfl ?_ ?_ ?_ <;> simp only [go_sem, t0, t1]
  have bad : i < 0 ∨ (s.length : Int) < i → K (tup3 (0, 0, 3)) σ := fun h => by
    rw [numR, if_pos h] at hK; exact hK
  simp -dsimp only [↓reduceIte, go_sem]
  refine guardV_split (fun h1 => ?_) (fun h1 => ?_) <;> (try rw [h1])
  · have h1 : ¬ i < 0 := by simpa using h1
    simp -dsimp only [↓reduceIte, go_sem]
    refine arr_intro fun _ => ?_
    simp -dsimp only [↓reduceIte, go_sem]
    refine boolW_split (fun h2 => ?_) (fun h2 => ?_)
    · have h2 : (s.length : Int) < i := by simpa using h2
      simp -dsimp only [↓reduceIte, go_sem]
      exact bad (.inr h2)
    · have h2 : ¬ (s.length : Int) < i := by simpa using h2
      simp -dsimp only [↓reduceIte, go_sem]
      refine go _ ?_ ?_ (by omega) <;> simp only [go_sem]
  · have h1 : i < 0 := by simpa using h1
    simp -dsimp only [↓reduceIte, go_sem]
    exact bad (.inl h1)

def textP (s : List UInt8) (p : Nat) : List UInt8 × Int × Int :=
  if shapeS s p (dend s p) 58 ≠ 0 then ([], 0, shapeS s p (dend s p) 58) else
  if 16384 < val (digs s p) then ([], 0, 4) else
  if s.length < dend s p + 1 + val (digs s p) then ([], 0, 5) else
  ((s.take (dend s p + 1 + val (digs s p))).drop (dend s p + 1), ((dend s p + 1 + val (digs s p) : Nat) : Int), 0)
def textR (s : List UInt8) (i : Int) : List UInt8 × Int × Int := if i < 0 ∨ (s.length : Int) < i then ([], 0, 3) else textP s i.toNat
def tupT (x : List UInt8 × Int × Int) : AV := .tuple [.str x.1, .int .i64 x.2.1, .int .i64 x.2.2]

theorem readText_c {s : List UInt8} {i : Int} (hi0 : -9223372036854775808 ≤ i) (hi1 : i ≤ 9223372036854775807) {σ : AST} {K : AV → AST → Prop}
    (hK : K (tupT (textR s i)) σ) : TCalls Tryz.prog 138 [.str s, .int .i64 i] σ K := by
  refine tcalls_walk Tryz.f138 _ [.tmp 4, .tmp 5, .tmp 6] Tryz.func138 rfl rfl rfl mixed (Nat.le_of_ble_eq_true rfl) rfl fun hlen => ?_
  have hs : s.length ≤ 9223372036854775807 := hlen (.str s) (by simp)
  refine awp_seq_k fun KA hKA => ?_
  simp -dsimp only [↓reduceIte, go_sem]
  refine hKA _ _ (awp_seq_k fun KB hKB => ?_)
  have go : ∀ τ : Env, τ 0 = .str s → τ 1 = .int .i64 i → ¬ (i < 0 ∨ (s.length : Int) < i) → KB τ σ := by
    intro τ t0 t1 hok
    have hi : (i.toNat : Int) = i := by omega
    rw [textR, if_neg hok] at hK
    generalize hp : i.toNat = p at hi hK
    have hpl : p ≤ s.length := by omega
    rw [← hi] at t1
    have hel := dend_le hpl
    have heq : p ≤ dend s p := by unfold dend; omega
    rw [textP] at hK
    refine hKB _ _ ?_
    simp -dsimp only [↓reduceIte, go_sem, t0, t1]
    refine run_c (most := 16384) hpl (by omega) (by omega) ?_
    simp -dsimp only [↓reduceIte, go_sem, t0, t1]
    refine shape_c (last := 58) heq hel ?_
    generalize hval : val (digs s p) = v at *
    generalize hee : dend s p = e at *
    generalize hsh : shapeS s p e 58 = sh at *
    simp -dsimp only [↓reduceIte, go_sem, t0, t1]
    refine boolW_split (fun h1 => ?_) (fun h1 => ?_)
    · have h1 : sh ≠ 0 := by simp at h1; exact h1
      rw [if_pos h1] at hK
      simp -dsimp only [↓reduceIte, go_sem, t0, t1]
      exact hK
    · have h1 : sh = 0 := by simp at h1; exact h1
      rw [if_neg (by simp [h1])] at hK
      rw [h1] at hsh
      have hlt := shape_ok hsh hel
      simp -dsimp only [↓reduceIte, go_sem, t0, t1]
      refine boolW_split (fun h2 => ?_) (fun h2 => ?_)
      · have h2 : 16384 < v := by simp at h2; omega
        rw [if_pos h2] at hK
        simp -dsimp only [↓reduceIte, go_sem, t0, t1]
        exact hK
      · have h2 : ¬ 16384 < v := by simp at h2; omega
        rw [if_neg h2] at hK
        have hmod : v % 18446744073709551616 = v := by omega
        have hw : IntKind.i64.wrap ((v : Nat) : Int) = (v : Int) := wrap_i64 (by omega) (by omega)
        have he1 : IntKind.i64.wrap ((e : Int) + 1) = ((e + 1 : Nat) : Int) := by rw [wrap_i64 (by omega) (by omega)]; omega
        simp -dsimp only [↓reduceIte, go_sem, t0, t1]
        refine arr_intro fun _ => ?_
        simp -dsimp only [↓reduceIte, go_sem, t0, t1]
        rw [hmod, hw, he1, wrap_i64 (n := (s.length : Int) - _) (by omega) (by omega)]
        refine boolW_split (fun h3 => ?_) (fun h3 => ?_)
        · have h3 : s.length < e + 1 + v := by simp at h3; omega
          rw [if_pos h3] at hK
          simp -dsimp only [↓reduceIte, go_sem, t0, t1]
          exact hK
        · have h3 : ¬ s.length < e + 1 + v := by simp at h3; omega
          rw [if_neg h3] at hK
          simp -dsimp only [↓reduceIte, go_sem, t0, t1]
          refine side_later (by omega) ?_
          have hfin : IntKind.i64.wrap (((e + 1 : Nat) : Int) + (v : Int)) = ((e + 1 + v : Nat) : Int) := by rw [wrap_i64 (by omega) (by omega)]; omega
          rw [hw, hfin]
          simp -dsimp only [↓reduceIte, go_sem, t0, t1]
          refine side_later (by omega) ?_
          simp -dsimp only [↓reduceIte, go_sem, t0, t1]
          refine ⟨by omega, by omega, later_intro ?_⟩
          simp -dsimp only [↓reduceIte, go_sem, t0, t1]
          rw [hw, hfin]
          exact hK
  have bad : i < 0 ∨ (s.length : Int) < i → K (tupT ([], 0, 3)) σ := fun h => by
    rw [textR, if_pos h] at hK; exact hK
  simp -dsimp only [↓reduceIte, go_sem]
  refine guardV_split (fun h1 => ?_) (fun h1 => ?_) <;> (try rw [h1])
  · have h1 : ¬ i < 0 := by simpa using h1
    simp -dsimp only [↓reduceIte, go_sem]
    refine arr_intro fun _ => ?_
    simp -dsimp only [↓reduceIte, go_sem]
    refine boolW_split (fun h2 => ?_) (fun h2 => ?_)
    · have h2 : (s.length : Int) < i := by simpa using h2
      simp -dsimp only [↓reduceIte, go_sem]
      exact bad (.inr h2)
    · have h2 : ¬ (s.length : Int) < i := by simpa using h2
      simp -dsimp only [↓reduceIte, go_sem]
      refine go _ ?_ ?_ (by omega) <;> simp only [go_sem]
  · have h1 : i < 0 := by simpa using h1
    simp -dsimp only [↓reduceIte, go_sem]
    exact bad (.inl h1)

theorem ReadText_c {s : List UInt8} {i : Int} (hi0 : -9223372036854775808 ≤ i) (hi1 : i ≤ 9223372036854775807) {σ : AST} {K : AV → AST → Prop}
    (hK : K (tupT (textR s i)) σ) : TCalls Tryz.prog 125 [.str s, .int .i64 i] σ K := by
  refine tcalls_walk Tryz.f125 _ [.tmp 4, .tmp 5, .tmp 6] Tryz.func125 rfl rfl rfl mixed (Nat.le_of_ble_eq_true rfl) rfl fun hlen => ?_
  have hs : s.length ≤ 9223372036854775807 := hlen (.str s) (by simp)
  refine awp_seq_k fun KA hKA => ?_
  simp -dsimp only [↓reduceIte, go_sem]
  refine hKA _ _ (awp_seq_k fun KB hKB => ?_)
  have go : ∀ τ : Env, τ 0 = .str s → τ 1 = .int .i64 i → ¬ (i < 0 ∨ (s.length : Int) < i) → KB τ σ := by
    intro τ t0 t1 hok
    have hi : (i.toNat : Int) = i := by omega
    rw [textR, if_neg hok] at hK
    generalize hp : i.toNat = q at hi hK
    have hql : q ≤ s.length := by omega
    rw [← hi] at t1
    have hel := dend_le hql
    have heq : q ≤ dend s q := by unfold dend; omega
    rw [textP] at hK
    refine hKB _ _ ?_
    simp -dsimp only [↓reduceIte, go_sem, t0, t1]
    refine end_c hql ?_
    simp -dsimp only [↓reduceIte, go_sem, t0, t1]
    refine bad_c (last := 58) heq hel ?_
    generalize hsh : shapeS s q (dend s q) 58 = sh at *
    simp -dsimp only [↓reduceIte, go_sem, t0, t1]
    refine boolW_split (fun h1 => ?_) (fun h1 => ?_)
    · have h1 : sh ≠ 0 := by simpa using h1
      rw [if_pos h1] at hK
      simp -dsimp only [↓reduceIte, go_sem, t0, t1]
      exact hK
    · have h1 : sh = 0 := by simpa using h1
      rw [if_neg (by simp [h1])] at hK
      rw [h1] at hsh
      have hlt := shape_ok hsh hel
      have hee : dend s q = q + (digs s q).length := rfl
      have hDg : ∀ k, k < (digs s q).length → (digs s q)[k]? = s[q + k]? := fun k hk => digs_get hk
      have hDd : ∀ b ∈ digs s q, 48 ≤ b.toNat ∧ b.toNat ≤ 57 := fun b hb => by have := digs_isD b hb; simpa [isD] using this
      generalize hD : digs s q = D at *
      generalize hE : dend s q = e at *
      simp -dsimp only [↓reduceIte, go_sem, t0, t1]
      refine awp_rounds (fun (k : Nat) τ s' => s' = σ ∧ τ 0 = .str s ∧ τ 7 = .int .i64 e ∧ τ 10 = .int .i64 (q + k : Nat) ∧ k ≤ D.length ∧ τ 9 = .int .i64 (val (D.take k) : Nat) ∧ val (D.take k) ≤ 16384) (fun k => D.length - k) 0 ?_ ?_
      · refine ⟨rfl, ?_, ?_, ?_, by omega, ?_, by simp [val]⟩ <;> simp only [go_sem, t0, t1] <;> rfl
      · rintro k τ s' ⟨rfl, t0, t7, t10, hk, t9, hv⟩
        simp -dsimp only [↓reduceIte, go_sem, t0, t7, t9, t10]
        refine boolW_split (fun h2 => ?_) (fun h2 => ?_)
        · have h2 : k < D.length := by simp at h2; omega
          obtain ⟨b, hb⟩ := get_lt h2
          have hbs := hDg k h2
          rw [hb] at hbs
          have hbd := hDd b (List.mem_iff_getElem?.2 ⟨k, hb⟩)
          have hval := val_take_succ hb
          simp -dsimp only [↓reduceIte, go_sem, t0, t7, t9, t10]
          refine nth_get hbs.symm ?_
          simp -dsimp only [↓reduceIte, go_sem, t0, t7, t9, t10]
          have hn : IntKind.i64.wrap (IntKind.i64.wrap (IntKind.i64.wrap ((val (D.take k) : Nat) * 10 : Int) + IntKind.i64.wrap (b.toNat : Int)) - 48) = ((val (D.take (k + 1)) : Nat) : Int) := by
            rw [wrap_i64 (n := (b.toNat : Int)) (by omega) (by omega), wrap_i64 (n := ((val (D.take k) : Nat) * 10 : Int)) (by omega) (by omega), wrap_i64 (n := ((val (D.take k) : Nat) * 10 : Int) + _) (by omega) (by omega), wrap_i64 (by omega) (by omega), hval]; omega
          rw [hn]
          refine boolW_split (fun h3 => ?_) (fun h3 => ?_)
          · have hm := val_mono (D := D) (k + 1)
            have h3 : 16384 < val D := by simp at h3; omega
            rw [if_pos h3] at hK
            simp -dsimp only [↓reduceIte, go_sem, t0, t7, t9, t10]
            exact hK
          · have h3 : val (D.take (k + 1)) ≤ 16384 := by simp at h3; omega
            simp -dsimp only [↓reduceIte, go_sem, t0, t7, t9, t10]
            refine later_intro ⟨k + 1, by omega, rfl, ?_, ?_, ?_, by omega, ?_, h3⟩ <;> simp only [go_sem, t0, t7, t9, t10]
            rw [wrap_i64 (by omega) (by omega)]; congr 1
        · have h2 : k = D.length := by simp at h2; omega
          subst h2
          rw [List.take_length] at t9 hv
          rw [if_neg (by omega)] at hK
          simp -dsimp only [↓reduceIte, go_sem, t0, t7, t9, t10]
          refine arr_intro fun _ => ?_
          simp -dsimp only [↓reduceIte, go_sem, t0, t7, t9, t10]
          rw [wrap_i64 (n := (s.length : Int) - _) (by omega) (by omega), wrap_i64 (by omega) (by omega)]
          have he1 : IntKind.i64.wrap ((e : Int) + 1) = ((e + 1 : Nat) : Int) := by rw [wrap_i64 (by omega) (by omega)]; omega
          refine boolW_split (fun h3 => ?_) (fun h3 => ?_)
          · have h3 : s.length < e + 1 + val D := by simp at h3; omega
            rw [if_pos h3] at hK
            simp -dsimp only [↓reduceIte, go_sem, t0, t7, t9, t10]
            exact hK
          · have h3 : ¬ s.length < e + 1 + val D := by simp at h3; omega
            rw [if_neg h3] at hK
            have hfin : IntKind.i64.wrap (((e + 1 : Nat) : Int) + (val D : Int)) = ((e + 1 + val D : Nat) : Int) := by rw [wrap_i64 (by omega) (by omega)]; omega
            simp -dsimp only [↓reduceIte, go_sem, t0, t7, t9, t10]
            rw [he1]
            refine side_later (by omega) ?_
            simp -dsimp only [↓reduceIte, go_sem, t0, t7, t9, t10]
            rw [hfin]
            refine side_later (by omega) ?_
            simp -dsimp only [↓reduceIte, go_sem, t0, t7, t9, t10]
            refine ⟨by omega, by omega, later_intro ?_⟩
            simp -dsimp only [↓reduceIte, go_sem, t0, t7, t9, t10]
            rw [he1, hfin]
            exact hK
  have bad : i < 0 ∨ (s.length : Int) < i → K (tupT ([], 0, 3)) σ := fun h => by
    rw [textR, if_pos h] at hK; exact hK
  simp -dsimp only [↓reduceIte, go_sem]
  refine guardV_split (fun h1 => ?_) (fun h1 => ?_) <;> (try rw [h1])
  · have h1 : ¬ i < 0 := by simpa using h1
    simp -dsimp only [↓reduceIte, go_sem]
    refine arr_intro fun _ => ?_
    simp -dsimp only [↓reduceIte, go_sem]
    refine boolW_split (fun h2 => ?_) (fun h2 => ?_)
    · have h2 : (s.length : Int) < i := by simpa using h2
      simp -dsimp only [↓reduceIte, go_sem]
      exact bad (.inr h2)
    · have h2 : ¬ (s.length : Int) < i := by simpa using h2
      simp -dsimp only [↓reduceIte, go_sem]
      refine go _ ?_ ?_ (by omega) <;> simp only [go_sem]
  · have h1 : i < 0 := by simpa using h1
    simp -dsimp only [↓reduceIte, go_sem]
    exact bad (.inl h1)
end Go.Aff.L01

