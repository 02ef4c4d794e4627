/- Layer 1, walked: digits. -/
import Derived.Test.YtfomojflekepoaaL01a
import Derived.Test.YtfomojflekepoaaProg
namespace Go.Aff.L01
open Go.Proofs Go.Aff
set_option linter.unusedVariables false
set_option linter.unusedSimpArgs false
theorem mixed : Try.prog.follows .mixedOrders = true := rfl
theorem agg3 : aggT Try.prog 3 = some false := by kernel_rfl
theorem cells3 : Try.prog.cellsOf 3 = 1 := by kernel_rfl
theorem agg5 : aggT Try.prog 5 = some false := by kernel_rfl
theorem zero5 : ZeroOf Try.prog 5 (.int .u8 0) := ⟨_, _, rfl, rfl, rfl, rfl, rfl⟩
theorem E51 : ElemT Try.prog 51 5 1 1 := ⟨rfl, by kernel_rfl, by kernel_rfl, ⟨_, zero5⟩, by decide⟩
theorem E25 : ElemT Try.prog 25 3 1 8 := ⟨rfl, by kernel_rfl, by kernel_rfl, ⟨.int .i64 0, ⟨_, _, rfl, rfl, rfl, rfl, rfl⟩⟩, by decide⟩
theorem E26 : ElemT Try.prog 26 9 1 16 := ⟨rfl, by kernel_rfl, by kernel_rfl, ⟨.str [], ⟨_, _, rfl, rfl, rfl, rfl, rfl⟩⟩, by decide⟩
theorem S51 : isSliceT Try.prog 51 = true := rfl
attribute [local go_sem] Try.underlying3 Try.underlying4 Try.underlying5 Try.underlying9 Try.underlying51 Try.underlying53

theorem digits_c : ∀ (n : Nat), n < 18446744073709551616 → ∀ {tk : Tk} {l : List UInt8} {σ : AST} {K : AV → AST → Prop}, canApp σ tk l.length 1 → l.length ≤ 20000000 →
    K (.slice (growT σ tk) (u8s (l ++ dg n))) (growS σ tk (l ++ dg n).length 1) → TCalls Try.prog 29 [.slice tk (u8s l), .int .u64 n] σ K := by
  intro n
  induction n using Nat.strongRecOn with
  | ind n ih =>
  intro hn tk l σ K hcan hl hK
  refine tcalls_walk Try.f29 _ [.tmp 4] Try.func29 rfl rfl rfl mixed (Nat.le_of_ble_eq_true rfl) rfl fun hlen => ?_
  refine awp_seq_k fun KA hKA => ?_
  simp -dsimp only [go_sem]
  refine hKA _ _ (awp_seq_k fun KB hKB => ?_)
  have last : ∀ {tk : Tk} {l : List UInt8} {σ : AST} {τ : Env}, canApp σ tk l.length 1 → l.length ≤ 20000100 → τ 0 = .slice tk (u8s l) → τ 1 = .int .u64 n →
      K (.slice (growT σ tk) (u8s (l ++ [UInt8.ofNat (48 + n % 10)]))) (growS σ tk (l.length + 1) 1) → KB τ σ := by
    intro tk l σ τ hcan hl h0 h1 hK
    refine hKB _ _ ?_
    simp -dsimp only [go_sem, h0, h1]
    rw [show Int.tmod (n : Int) 10 = ((n % 10 : Nat) : Int) from tmod_nat n 10, wrap_u64 (by omega) (by omega), wrap_u8 (by omega) (by omega)]
    refine build_byte E51 agg5 (by omega) (by omega) ?_
    rw [show UInt8.ofNat ((48 : Int) + ((n % 10 : Nat) : Int)).toNat = UInt8.ofNat (48 + n % 10) by congr 1]
    simp -dsimp only [go_sem]
    refine append_bytes E51 S51 hcan (by simp; omega) (by simp [maxL]; omega) ?_
    simp -dsimp only [go_sem]
    exact hK
  simp -dsimp only [go_sem]
  refine boolW_split (fun hb => ?_) (fun hb => ?_)
  · have h10 : ¬ n < 10 := by simp at hb; omega
    simp -dsimp only [go_sem]
    rw [show Int.tdiv (n : Int) 10 = ((n / 10 : Nat) : Int) from tdiv_nat n 10, wrap_u64 (by omega) (by omega)]
    refine ih (n / 10) (by omega) (by omega) hcan hl ?_
    simp -dsimp only [go_sem]
    have hd := dg_len20 (n := n / 10) (by omega)
    refine last (tk := growT σ tk) (l := l ++ dg (n / 10)) (by exact canApp_grow hcan) (by simp; omega) ?_ ?_ ?_
    · simp -dsimp only [go_sem]
    · simp -dsimp only [go_sem]
    · rw [growT_growS, growS_growS hcan]
      rw [dg_big h10] at hK
      rw [show (l ++ dg (n / 10)).length + 1 = (l ++ (dg (n / 10) ++ [UInt8.ofNat (48 + n % 10)])).length by simp; omega, List.append_assoc]
      exact hK
  · have h10 : n < 10 := by simp at hb; omega
    simp -dsimp only [go_sem]
    refine last hcan (by omega) ?_ ?_ ?_
    · simp -dsimp only [go_sem]
    · simp -dsimp only [go_sem]
    · rw [dg_small h10] at hK
      rw [Nat.mod_eq_of_lt h10]
      rw [show l.length + 1 = (l ++ [UInt8.ofNat (48 + n)]).length by simp]
      exact hK
end Go.Aff.L01
