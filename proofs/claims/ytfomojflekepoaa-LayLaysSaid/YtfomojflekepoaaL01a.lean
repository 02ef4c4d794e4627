/- Layer 1: what its functions are. Plain. -/
import Derived.Test.YtfomojflekepoaaAffW
namespace Go.Aff.L01
open Go.Aff

/-- A number's digits. -/
def dg (n : Nat) : List UInt8 := if n < 10 then [UInt8.ofNat (48 + n)] else dg (n / 10) ++ [UInt8.ofNat (48 + n % 10)]

theorem dg_small {n : Nat} (h : n < 10) : dg n = [UInt8.ofNat (48 + n)] := by rw [dg, if_pos h]
theorem dg_big {n : Nat} (h : ¬ n < 10) : dg n = dg (n / 10) ++ [UInt8.ofNat (48 + n % 10)] := by rw [dg, if_neg h]
theorem dg_len : ∀ (k n : Nat), n < 10 ^ (k + 1) → (dg n).length ≤ k + 1
  | 0, n, h => by rw [dg_small (by simpa using h)]; simp
  | k + 1, n, h => by
    by_cases h10 : n < 10
    · rw [dg_small h10]; simp
    · rw [dg_big h10, List.length_append]
      have := dg_len k (n / 10) (by rw [Nat.div_lt_iff_lt_mul (by decide)]; rw [Nat.pow_succ] at h; exact h)
      simp; omega
theorem dg_len20 {n : Nat} (h : n < 18446744073709551616) : (dg n).length ≤ 20 := dg_len 19 n (Nat.lt_of_lt_of_le h (by decide))

def numS (n : Int) : List UInt8 := (if n < 0 then [45] else []) ++ dg n.natAbs ++ [59]
theorem numS_len {n : Int} (h0 : -9223372036854775808 ≤ n) (h1 : n ≤ 9223372036854775807) : (numS n).length ≤ 22 := by
  have := dg_len20 (n := n.natAbs) (by omega)
  unfold numS; split <;> simp <;> omega

end Go.Aff.L01
