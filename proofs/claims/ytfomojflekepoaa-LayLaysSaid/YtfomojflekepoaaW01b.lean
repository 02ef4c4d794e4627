/- Layer 1, walked: numbers and texts. -/
import Derived.Test.YtfomojflekepoaaW01a
namespace Go.Aff.L01
open Go.Proofs Go.Aff
set_option linter.unusedVariables false
set_option linter.unusedSimpArgs false
attribute [local go_sem] Try.underlying3 Try.underlying4 Try.underlying5 Try.underlying9 Try.underlying51 Try.underlying53 Try.underlying27

theorem number_c {n : Int} (h0 : -9223372036854775808 ≤ n) (h1 : n ≤ 9223372036854775807) {σ : AST} {K : AV → AST → Prop} (hK : K (.str (numS n)) σ) : TCalls Try.prog 10 [.int .i64 n] σ K := by
  refine TCalls.drop ?_
  refine tcalls_walk Try.f10 _ [.tmp 2] Try.func10 rfl rfl rfl mixed (Nat.le_of_ble_eq_true rfl) rfl fun hlen => ?_
  have hd := dg_len20 (n := n.natAbs) (by omega)
  simp -dsimp only [go_sem]
  refine boolW_split (fun hb => ?_) (fun hb => ?_)
  · have hneg : n < 0 := by simpa using hb
    simp -dsimp only [go_sem]
    refine build_byte E51 agg5 (by decide) (by decide) ?_
    simp -dsimp only [go_sem]
    rw [show IntKind.u64.wrap (0 - IntKind.u64.wrap n) = ((n.natAbs : Nat) : Int) by rw [IntKind.wrap_u64, IntKind.wrap_u64]; omega]
    refine digits_c _ (by omega) canFull (by simp) ?_
    simp -dsimp only [go_sem]
    refine build_byte E51 agg5 (by decide) (by decide) ?_
    simp -dsimp only [go_sem]
    refine append_bytes E51 S51 canGrow (by simp; omega) (by simp [maxL]; omega) ?_
    simp -dsimp only [go_sem]
    refine ⟨?_, rfl, ?_⟩
    · rw [growFull]; exact Ext.growFull _ _ _
    · have : numS n = [UInt8.ofNat (Int.toNat 45)] ++ dg n.natAbs ++ [UInt8.ofNat (Int.toNat 59)] := by simp [numS, hneg]
      rw [this] at hK; exact hK
  · have hneg : ¬ n < 0 := by simpa using hb
    simp -dsimp only [go_sem]
    rw [show IntKind.u64.wrap n = ((n.natAbs : Nat) : Int) by rw [IntKind.wrap_u64]; omega]
    refine digits_c (l := []) _ (by omega) canFull (by simp) ?_
    simp -dsimp only [go_sem]
    refine build_byte E51 agg5 (by decide) (by decide) ?_
    simp -dsimp only [go_sem]
    refine append_bytes E51 S51 canGrow (by simp; omega) (by simp [maxL]; omega) ?_
    simp -dsimp only [go_sem]
    refine ⟨?_, rfl, ?_⟩
    · rw [growFull]; exact Ext.growFull _ _ _
    · have : numS n = dg n.natAbs ++ [UInt8.ofNat (Int.toNat 59)] := by simp [numS, hneg]
      rw [this] at hK; exact hK

theorem Digits_c : ∀ (n : Nat), n < 9223372036854775808 → ∀ {σ : AST} {K : AV → AST → Prop}, K (.str (dg n)) σ → TCalls Try.prog 30 [.int .i64 n] σ K := by
  intro n
  induction n using Nat.strongRecOn with
  | ind n ih =>
  intro hn σ K hK
  refine tcalls_walk Try.f30 _ [.tmp 2] Try.func30 rfl rfl rfl mixed (Nat.le_of_ble_eq_true rfl) rfl fun hlen => ?_
  simp -dsimp only [go_sem]
  refine boolW_split (fun hb => ?_) (fun hb => ?_)
  · have h10 : n < 10 := by simp at hb; omega
    simp -dsimp only [go_sem]
    rw [wrap_i64 (by omega) (by omega), wrap_u8 (by omega) (by omega)]
    refine build_byte E51 agg5 (by omega) (by omega) ?_
    simp -dsimp only [go_sem]
    rw [dg_small h10] at hK
    rw [show ((48 : Int) + (n : Int)).toNat = 48 + n by omega]
    exact hK
  · have h10 : ¬ n < 10 := by simp at hb; omega
    simp -dsimp only [go_sem]
    refine awp_drawS [0, 1, 3, 4, 5, 6, 7, 8, 2, 9, 10] (by kernel_rfl) ?_
    simp -dsimp only [go_sem]
    rw [show Int.tmod (n : Int) 10 = ((n % 10 : Nat) : Int) from tmod_nat n 10, wrap_i64 (n := 48 + _) (by omega) (by omega), wrap_u8 (by omega) (by omega)]
    refine build_byte E51 agg5 (by omega) (by omega) ?_
    simp -dsimp only [go_sem]
    rw [show Int.tdiv (n : Int) 10 = ((n / 10 : Nat) : Int) from tdiv_nat n 10, wrap_i64 (by omega) (by omega)]
    refine ih (n / 10) (by omega) (by omega) ?_
    simp -dsimp only [go_sem]
    have hd := dg_len20 (n := n / 10) (by omega)
    refine side_later (by simp [maxL]; omega) ?_
    simp -dsimp only [go_sem]
    rw [dg_big h10] at hK
    rw [show ((48 : Int) + ((n % 10 : Nat) : Int)).toNat = 48 + n % 10 by omega]
    exact hK

/-- The reference's digits of a number from 0 on. -/
theorem Digits_i {i : Int} (h0 : 0 ≤ i) (h1 : i ≤ 9223372036854775807) {σ : AST} {K : AV → AST → Prop} (hK : K (.str (dg i.toNat)) σ) : TCalls Try.prog 30 [.int .i64 i] σ K := by
  have := Digits_c i.toNat (by omega) hK
  rwa [Int.toNat_of_nonneg h0] at this

theorem Number_c {n : Int} (h0 : -9223372036854775808 ≤ n) (h1 : n ≤ 9223372036854775807) {σ : AST} {K : AV → AST → Prop} (hK : K (.str (numS n)) σ) : TCalls Try.prog 11 [.int .i64 n] σ K := by
  refine tcalls_walk Try.f11 _ [.tmp 2] Try.func11 rfl rfl rfl mixed (Nat.le_of_ble_eq_true rfl) rfl fun hlen => ?_
  have hd := dg_len20 (n := n.natAbs) (by omega)
  simp -dsimp only [go_sem]
  refine boolW_split (fun hb => ?_) (fun hb => ?_)
  · have hneg : 0 ≤ n := by simpa using hb
    simp -dsimp only [go_sem]
    refine Digits_i hneg h1 ?_
    rw [show n.toNat = n.natAbs by omega]
    simp -dsimp only [go_sem]
    refine side_later (by simp [maxL]; omega) ?_
    simp -dsimp only [go_sem]
    have : numS n = dg n.natAbs ++ [59] := by simp [numS]; omega
    rw [this] at hK; exact hK
  · have hneg : n < 0 := by simpa using hb
    have ht := tdiv10_neg (n := n) (by omega)
    have hm := tmod10_neg (n := n) (by omega)
    simp -dsimp only [go_sem]
    rw [wrap_i64 (n := n.tdiv 10) (by omega) (by omega)]
    refine boolW_split (fun hz => ?_) (fun hz => ?_)
    · have hz : n.tdiv 10 = 0 := by simpa using hz
      simp -dsimp only [go_sem]
      rw [wrap_i64 (by omega) (by omega)]
      refine Digits_i (by omega) (by omega) ?_
      rw [show (0 - n).toNat = n.natAbs by omega]
      simp -dsimp only [go_sem]
      refine side_later (by simp [maxL]; omega) ?_
      simp -dsimp only [go_sem]
      refine side_later (by simp [maxL]; omega) ?_
      simp -dsimp only [go_sem]
      have : numS n = 45 :: (dg n.natAbs ++ [59]) := by simp [numS, hneg]
      rw [this] at hK; exact hK
    · have hz : ¬ n.tdiv 10 = 0 := by simpa using hz
      simp -dsimp only [go_sem]
      rw [wrap_i64 (n := n.tdiv 10) (by omega) (by omega), wrap_i64 (by omega) (by omega)]
      refine Digits_i (by omega) (by omega) ?_
      have e1 : (0 - n.tdiv 10).toNat = n.natAbs / 10 := by omega
      have e2 : (0 - n.tmod 10).toNat = n.natAbs % 10 := by omega
      have hd2 := dg_len20 (n := n.natAbs / 10) (by omega)
      have hd3 := dg_len20 (n := n.natAbs % 10) (by omega)
      rw [e1]
      simp -dsimp only [go_sem]
      refine side_later (by simp [maxL]; omega) ?_
      simp -dsimp only [go_sem]
      rw [wrap_i64 (by omega) (by omega)]
      refine Digits_i (by omega) (by omega) ?_
      rw [e2]
      simp -dsimp only [go_sem]
      refine side_later (by simp [maxL]; omega) ?_
      simp -dsimp only [go_sem]
      refine side_later (by simp [maxL]; omega) ?_
      simp -dsimp only [go_sem]
      have h10 : ¬ n.natAbs < 10 := by omega
      have : numS n = 45 :: (dg (n.natAbs / 10) ++ (dg (n.natAbs % 10) ++ [59])) := by
        rw [dg_small (n := n.natAbs % 10) (by omega)]
        simp [numS, hneg]
        rw [dg_big h10]; simp
      rw [this] at hK
      simpa using hK

def textS (s : List UInt8) : List UInt8 := dg s.length ++ [58] ++ s

theorem text_c {s : List UInt8} {σ : AST} {K : AV → AST → Prop} (hK : K (if 16384 < s.length then .tuple [.str [], .int .i64 4] else .tuple [.str (textS s), .int .i64 0]) σ) : TCalls Try.prog 12 [.str s] σ K := by
  refine TCalls.drop ?_
  refine tcalls_walk Try.f12 _ [.tmp 2, .tmp 3] Try.func12 rfl rfl rfl mixed (Nat.le_of_ble_eq_true rfl) rfl fun hlen => ?_
  simp -dsimp only [go_sem]
  refine arr_intro fun _ => ?_
  simp -dsimp only [go_sem]
  refine boolW_split (fun hb => ?_) (fun hb => ?_)
  · have hb : 16384 < s.length := by simp at hb; omega
    rw [if_pos hb] at hK
    simp -dsimp only [go_sem]
    exact ⟨Ext.refl _, rfl, hK⟩
  · have hb : ¬ 16384 < s.length := by simp at hb; omega
    rw [if_neg hb] at hK
    have hd := dg_len20 (n := s.length) (by omega)
    simp -dsimp only [go_sem]
    refine arr_intro fun _ => ?_
    simp -dsimp only [go_sem]
    rw [wrap_u64 (by omega) (by omega)]
    refine digits_c (l := []) _ (by omega) canFull (by simp) ?_
    simp -dsimp only [go_sem]
    refine build_byte E51 agg5 (by decide) (by decide) ?_
    simp -dsimp only [go_sem]
    refine append_bytes E51 S51 canGrow (by simp; omega) (by simp [maxL]; omega) ?_
    simp -dsimp only [go_sem]
    refine side_later (by simp [maxL]; omega) ?_
    simp -dsimp only [go_sem]
    refine ⟨?_, rfl, ?_⟩
    · rw [growFull]; exact Ext.growFull _ _ _
    · exact hK

theorem Text_c {s : List UInt8} {σ : AST} {K : AV → AST → Prop} (hK : K (if 16384 < s.length then .tuple [.str [], .int .i64 4] else .tuple [.str (textS s), .int .i64 0]) σ) : TCalls Try.prog 13 [.str s] σ K := by
  refine tcalls_walk Try.f13 _ [.tmp 2, .tmp 3] Try.func13 rfl rfl rfl mixed (Nat.le_of_ble_eq_true rfl) rfl fun hlen => ?_
  simp -dsimp only [go_sem]
  refine arr_intro fun _ => ?_
  simp -dsimp only [go_sem]
  refine boolW_split (fun hb => ?_) (fun hb => ?_)
  · have hb : 16384 < s.length := by simp at hb; omega
    rw [if_pos hb] at hK
    simp -dsimp only [go_sem]
    exact hK
  · have hb : ¬ 16384 < s.length := by simp at hb; omega
    rw [if_neg hb] at hK
    have hd := dg_len20 (n := s.length) (by omega)
    simp -dsimp only [go_sem]
    refine arr_intro fun _ => ?_
    simp -dsimp only [go_sem]
    refine Digits_i (by omega) (by omega) ?_
    simp -dsimp only [go_sem]
    refine side_later (by simp [maxL]; omega) ?_
    simp -dsimp only [go_sem]
    refine side_later (by simp [maxL]; omega) ?_
    simp -dsimp only [go_sem]
    exact hK

end Go.Aff.L01
