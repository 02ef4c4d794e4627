/- Layer 1: no laid thing begins another one. Plain. -/
import Derived.Test.YtfomojflekepoaaL01b
namespace Go.Aff.L01
open Go.Aff
set_option linter.unusedSimpArgs false

theorem toNat_ofNat {n : Nat} (h : n < 256) : (UInt8.ofNat n).toNat = n := by simp [UInt8.toNat_ofNat']; omega

theorem dg_isD : ∀ (n : Nat), ∀ b ∈ dg n, isD b = true := by
  intro n
  induction n using Nat.strongRecOn with
  | ind n ih =>
  intro b hb
  by_cases h : n < 10
  · rw [dg_small h] at hb; simp at hb; subst hb
    simp only [isD, toNat_ofNat (show 48 + n < 256 by omega)]; simp; omega
  · rw [dg_big h] at hb
    rcases List.mem_append.1 hb with hb | hb
    · exact ih (n / 10) (by omega) b hb
    · simp at hb; subst hb
      have := toNat_ofNat (show 48 + n % 10 < 256 by omega)
      simp only [isD, this]; simp; omega

theorem val_dg : ∀ (n : Nat), val (dg n) = n := by
  intro n
  induction n using Nat.strongRecOn with
  | ind n ih =>
  by_cases h : n < 10
  · rw [dg_small h]
    have := toNat_ofNat (show 48 + n < 256 by omega)
    simp only [val, List.foldl_cons, List.foldl_nil, this]; omega
  · rw [dg_big h, val_snoc, ih (n / 10) (by omega), toNat_ofNat (by omega)]; omega

theorem dg_inj {n m : Nat} (h : dg n = dg m) : n = m := by rw [← val_dg n, ← val_dg m, h]
theorem dg_ne {n : Nat} : dg n ≠ [] := by
  by_cases h : n < 10
  · rw [dg_small h]; simp
  · rw [dg_big h]; simp

/-- Two that both end at the first such byte: one begins the other one only if they are the same; what follows is compared in turn. -/
theorem stop_prefix {c : UInt8} : ∀ {l m x y : List UInt8}, c ∉ l → c ∉ m → (l ++ c :: x) <+: (m ++ c :: y) → l = m ∧ x <+: y
  | [], [], x, y, _, _, h => by simpa using h
  | [], b :: m, x, y, _, hm, h => by
    simp only [List.nil_append, List.cons_append, List.cons_prefix_cons] at h
    exact absurd (by simp [h.1]) hm
  | a :: l, [], x, y, hl, _, h => by
    simp only [List.nil_append, List.cons_append, List.cons_prefix_cons] at h
    exact absurd (by simp [h.1]) hl
  | a :: l, b :: m, x, y, hl, hm, h => by
    simp only [List.cons_append, List.cons_prefix_cons] at h
    obtain ⟨h1, h2⟩ := stop_prefix (fun hh => hl (by simp [hh])) (fun hh => hm (by simp [hh])) h.2
    exact ⟨by rw [h.1, h1], h2⟩

theorem not_in_dg {c : UInt8} {n : Nat} (h : isD c = false) : c ∉ dg n := fun hc => by
  have := dg_isD n c hc; rw [h] at this; cases this

theorem numS_apart {a b : Int} (hab : a ≠ b) : ¬ numS a <+: numS b := by
  intro h
  have key : ∀ n : Int, (59 : UInt8) ∉ (if n < 0 then [45] else []) ++ dg n.natAbs := by
    intro n hc
    rcases List.mem_append.1 hc with hc | hc
    · split at hc <;> simp at hc
    · exact not_in_dg (by decide) hc
  unfold numS at h
  obtain ⟨h1, _⟩ := stop_prefix (c := 59) (key a) (key b) h
  apply hab
  have n45 : ∀ n : Nat, (45 : UInt8) ∉ dg n := fun n => not_in_dg (by decide)
  by_cases ha : a < 0
  · by_cases hb : b < 0
    · simp only [if_pos ha, if_pos hb, List.cons_append, List.nil_append, List.cons.injEq, true_and] at h1
      have := dg_inj h1; omega
    · simp only [if_pos ha, if_neg hb, List.cons_append, List.nil_append] at h1
      exact absurd (by rw [← h1]; simp) (n45 b.natAbs)
  · by_cases hb : b < 0
    · simp only [if_neg ha, if_pos hb, List.cons_append, List.nil_append] at h1
      exact absurd (by rw [h1]; simp) (n45 a.natAbs)
    · simp only [if_neg ha, if_neg hb, List.nil_append] at h1
      have := dg_inj h1; omega

end Go.Aff.L01
