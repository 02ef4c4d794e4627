/- Layer 1: what was laid is read as it was. Plain. -/
import Derived.Test.YtfomojflekepoaaL01c
namespace Go.Aff.L01
open Go.Aff
set_option linter.unusedSimpArgs false
set_option linter.unusedVariables false

theorem digs_laid {x y : List UInt8} {c : UInt8} (n : Nat) (hc : isD c = false) : digs (x ++ (dg n ++ c :: y)) x.length = dg n := by
  unfold digs
  rw [List.drop_left, List.takeWhile_append_of_pos (dg_isD n)]
  rw [List.takeWhile_cons_of_neg (by simp [hc])]; simp
theorem dend_laid {x y : List UInt8} {c : UInt8} (n : Nat) (hc : isD c = false) : dend (x ++ (dg n ++ c :: y)) x.length = x.length + (dg n).length := by
  unfold dend; rw [digs_laid n hc]
theorem bAt_left {x y : List UInt8} {c : UInt8} : bAt (x ++ c :: y) x.length = c.toNat := by simp [bAt]
theorem bAt_end {x l y : List UInt8} {c : UInt8} : bAt (x ++ (l ++ c :: y)) (x.length + l.length) = c.toNat := by
  rw [← List.append_assoc, ← List.length_append]; exact bAt_left

theorem dg_head : ∀ (n : Nat), 0 < n → ∃ b r, dg n = b :: r ∧ b.toNat ≠ 48 := by
  intro n
  induction n using Nat.strongRecOn with
  | ind n ih =>
  intro hn
  by_cases h : n < 10
  · rw [dg_small h]
    exact ⟨_, [], rfl, by rw [toNat_ofNat (by omega)]; omega⟩
  · obtain ⟨b, r, hb, h48⟩ := ih (n / 10) (by omega) (by omega)
    rw [dg_big h, hb]
    exact ⟨b, _, rfl, h48⟩
theorem dg_zero : dg 0 = [48] := by rw [dg_small (by decide)]; rfl

theorem shape_laid {x y : List UInt8} {c : UInt8} (n : Nat) (hc : isD c = false) : shapeS (x ++ (dg n ++ c :: y)) x.length (x.length + (dg n).length) c.toNat = 0 := by
  have hne : 0 < (dg n).length := List.length_pos_iff.2 dg_ne
  unfold shapeS
  rw [if_neg (by simp), if_neg]
  rintro (h | h | ⟨h1, h2⟩)
  · omega
  · exact h bAt_end
  · by_cases hn : n = 0
    · subst hn; rw [dg_zero] at h1; simp at h1
    · obtain ⟨b, r, hb, h48⟩ := dg_head n (by omega)
      rw [hb, List.cons_append, bAt_left] at h2
      exact h48 h2

theorem num_back {x y : List UInt8} {n : Int} (h0 : -9223372036854775808 ≤ n) (h1 : n ≤ 9223372036854775807) : numP (x ++ (numS n ++ y)) x.length = (n, ((x.length + (numS n).length : Nat) : Int), 0) := by
  have c59 : isD 59 = false := by decide
  by_cases hn : n < 0
  · have e : x ++ (numS n ++ y) = (x ++ [45]) ++ (dg n.natAbs ++ 59 :: y) := by simp [numS, hn]
    have hl : (x ++ [(45 : UInt8)]).length = x.length + 1 := by simp
    have low : lowB (x ++ (numS n ++ y)) x.length = true := by
      rw [lowB, show x ++ (numS n ++ y) = x ++ 45 :: (dg n.natAbs ++ 59 :: y) by simp [numS, hn], bAt_left]; simp
    have hd := dend_laid (x := x ++ [45]) (y := y) (c := 59) n.natAbs c59
    have hg := digs_laid (x := x ++ [45]) (y := y) (c := 59) n.natAbs c59
    have hsh := shape_laid (x := x ++ [45]) (y := y) (c := 59) n.natAbs c59
    rw [numP, low]
    simp only [if_true]
    rw [numT, e]
    rw [hl] at hd hg hsh
    rw [hd, hg, val_dg]
    rw [show (59 : UInt8).toNat = 59 from rfl] at hsh
    rw [if_neg (not_not_intro hsh)]
    obtain ⟨b, r, hb, h48⟩ := dg_head n.natAbs (by omega)
    have hbq : bAt ((x ++ [45]) ++ (dg n.natAbs ++ 59 :: y)) (x.length + 1) ≠ 48 := by
      rw [hb, ← hl, List.cons_append, bAt_left]; exact h48
    rw [if_neg (fun h => hbq h.2.2), if_neg (by omega)]
    simp only [if_true, numS, if_pos hn, List.length_append, List.length_cons, List.length_nil, Prod.mk.injEq]
    exact ⟨by omega, by omega, trivial⟩
  · have e : x ++ (numS n ++ y) = x ++ (dg n.natAbs ++ 59 :: y) := by simp [numS, hn]
    have low : lowB (x ++ (numS n ++ y)) x.length = false := by
      obtain ⟨b, r, hb⟩ := List.exists_cons_of_ne_nil (dg_ne (n := n.natAbs))
      have hbd := dg_isD n.natAbs b (by rw [hb]; simp)
      rw [lowB, e, hb, List.cons_append, bAt_left]
      simp [isD] at hbd
      simp; omega
    have hd := dend_laid (x := x) (y := y) (c := 59) n.natAbs c59
    have hg := digs_laid (x := x) (y := y) (c := 59) n.natAbs c59
    have hsh := shape_laid (x := x) (y := y) (c := 59) n.natAbs c59
    rw [numP, low]
    simp only [Bool.false_eq_true, if_false]
    rw [numT, e, hd, hg, val_dg]
    rw [show (59 : UInt8).toNat = 59 from rfl] at hsh
    rw [if_neg (not_not_intro hsh), if_neg (by simp), if_neg (by omega)]
    simp only [Bool.false_eq_true, if_false, numS, if_neg hn, List.length_append, List.length_cons, List.length_nil, Prod.mk.injEq]
    exact ⟨by omega, by omega, trivial⟩

end Go.Aff.L01
