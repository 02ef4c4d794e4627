/- Layer 1: what is read is laid as the very bytes. Plain. -/
import Derived.Test.YtfomojflekepoaaL01d
namespace Go.Aff.L01
open Go.Aff
set_option linter.unusedSimpArgs false
set_option linter.unusedVariables false

theorem ofNat_digit {b : UInt8} (h : isD b = true) : UInt8.ofNat (48 + (b.toNat - 48)) = b := by
  simp [isD] at h
  rw [show 48 + (b.toNat - 48) = b.toNat by omega]
  simp

/-- Digits without a zero ahead are the digits of what they say. -/
theorem dg_val_rev : ∀ (r : List UInt8), r ≠ [] → (∀ b ∈ r, isD b = true) → (∀ b, r.getLast? = some b → 1 < r.length → b.toNat ≠ 48) → dg (val r.reverse) = r.reverse ∧ (1 < r.length ∨ (∀ b ∈ r, b.toNat ≠ 48) → 0 < val r.reverse)
  | [], h, _, _ => absurd rfl h
  | [b], _, hd, _ => by
    have hb := hd b (by simp)
    have h48 : 48 ≤ b.toNat ∧ b.toNat ≤ 57 := by simpa [isD] using hb
    have hv : val [b] = b.toNat - 48 := by simp [val]
    simp only [List.reverse_singleton, hv]
    refine ⟨?_, ?_⟩
    · rw [dg_small (by omega), ofNat_digit hb]
    · rintro (h | h)
      · simp at h
      · have := h b (by simp); omega
  | b :: c :: r, _, hd, hl => by
    have hb := hd b (by simp)
    have h48 : 48 ≤ b.toNat ∧ b.toNat ≤ 57 := by simpa [isD] using hb
    have hlast : ∀ x, (c :: r).getLast? = some x → x.toNat ≠ 48 := fun x hx => hl x (by simpa using hx) (by simp)
    obtain ⟨ih, ihp⟩ := dg_val_rev (c :: r) (by simp) (fun x hx => hd x (by simp [hx])) (fun x hx _ => hlast x hx)
    have hpos : 0 < val (c :: r).reverse := by
      apply ihp
      cases r with
      | nil => exact .inr fun x hx => by simp at hx; subst hx; exact hlast x rfl
      | cons _ _ => exact .inl (by simp)
    have hv : val (b :: c :: r).reverse = val (c :: r).reverse * 10 + (b.toNat - 48) := by rw [List.reverse_cons, val_snoc]
    rw [hv]
    refine ⟨?_, fun _ => by omega⟩
    rw [dg_big (by omega), show (val (c :: r).reverse * 10 + (b.toNat - 48)) / 10 = val (c :: r).reverse by omega, ih,
      show (val (c :: r).reverse * 10 + (b.toNat - 48)) % 10 = b.toNat - 48 by omega, ofNat_digit hb]
    simp

theorem dg_val {D : List UInt8} (h0 : D ≠ []) (hd : ∀ b ∈ D, isD b = true) (hh : ∀ b, D.head? = some b → 1 < D.length → b.toNat ≠ 48) : dg (val D) = D := by
  have := (dg_val_rev D.reverse (by simpa using h0) (fun b hb => hd b (by simpa using hb)) (fun b hb hl => hh b (by simpa using hb) (by simpa using hl))).1
  simpa using this

theorem digs_isD {s : List UInt8} {p : Nat} : ∀ b ∈ digs s p, isD b = true := fun b hb => by
  unfold digs at hb
  generalize s.drop p = l at hb
  induction l with
  | nil => simp at hb
  | cons a l ih =>
    by_cases ha : isD a = true
    · rw [List.takeWhile_cons_of_pos ha] at hb
      rcases List.mem_cons.1 hb with rfl | hb
      · exact ha
      · exact ih hb
    · rw [List.takeWhile_cons_of_neg ha] at hb; simp at hb

theorem shape_lt {s : List UInt8} {p e last : Nat} (h : shapeS s p e last = 0) (he : e ≤ s.length) : e < s.length ∧ e ≠ p := by
  unfold shapeS at h
  split at h
  · cases h
  · split at h
    · cases h
    · omega
theorem drop_tw {p : UInt8 → Bool} : ∀ (l : List UInt8), l.drop (l.takeWhile p).length = l.dropWhile p
  | [] => rfl
  | a :: l => by
    by_cases ha : p a = true
    · rw [List.takeWhile_cons_of_pos ha, List.dropWhile_cons_of_pos ha]; simpa using drop_tw l
    · rw [List.takeWhile_cons_of_neg ha, List.dropWhile_cons_of_neg ha]; rfl
theorem digs_split {s : List UInt8} {p : Nat} : s.drop p = digs s p ++ s.drop (dend s p) := by
  have h := List.takeWhile_append_dropWhile (p := isD) (l := s.drop p)
  rw [← drop_tw, List.drop_drop] at h
  exact h.symm

theorem bAt_some {s : List UInt8} {i : Nat} {c : UInt8} (hi : i < s.length) (h : bAt s i = c.toNat) : s[i]? = some c := by
  obtain ⟨b, hb⟩ := get_lt hi
  rw [bAt_of hb] at h
  rw [hb]; congr 1; exact UInt8.toNat_inj.1 h

/-- Where the digits and the byte behind them are right. -/
theorem shape_once {s : List UInt8} {p : Nat} {c : UInt8} (hp : p ≤ s.length) (h : shapeS s p (dend s p) c.toNat = 0) : s.drop p = dg (val (digs s p)) ++ c :: s.drop (dend s p + 1) := by
  have hel := dend_le hp
  have hD : dend s p = p + (digs s p).length := rfl
  unfold shapeS at h
  split at h
  · cases h
  · split at h
    · cases h
    · rename_i h1 h2
      have hlt : dend s p < s.length := by omega
      have hc := bAt_some (c := c) hlt (by apply Classical.byContradiction; intro hh; exact h2 (.inr (.inl hh)))
      have hne : digs s p ≠ [] := fun hh => h2 (.inl (by rw [hD, hh]; rfl))
      rw [dg_val hne digs_isD ?_]
      · have e : s.drop (dend s p) = c :: s.drop (dend s p + 1) := by
          rw [List.drop_eq_getElem_cons hlt]; congr 1
          rw [List.getElem?_eq_getElem hlt] at hc; exact Option.some.inj hc
        rw [← e]; exact digs_split
      · intro b hb hl h48
        apply h2
        refine .inr (.inr ⟨by omega, ?_⟩)
        have : (digs s p)[0]? = some b := by rw [← List.head?_eq_getElem?]; exact hb
        rw [digs_get (by omega)] at this
        rw [bAt_of (by simpa using this)]; exact h48

theorem num_once {s : List UInt8} {p : Nat} {n nx : Int} (hp : p ≤ s.length) (h : numP s p = (n, nx, 0)) :
    s.drop p = numS n ++ s.drop nx.toNat ∧ nx = ((p + (numS n).length : Nat) : Int) ∧ -9223372036854775808 ≤ n ∧ n ≤ 9223372036854775807 := by
  have hl : lowB s p = true → p < s.length ∧ bAt s p = 45 := fun h => by simpa [lowB] using h
  unfold numP at h
  generalize hw : lowB s p = low at *
  cases low with
  | false =>
    simp only [Bool.false_eq_true, if_false] at h
    unfold numT at h
    simp only [Bool.false_eq_true, false_and, if_false] at h
    split at h
    · simp only [Prod.mk.injEq] at h; rename_i h0; exact absurd h.2.2 h0
    · rename_i h0
      split at h
      · simp at h
      · rename_i hm
        simp only [Prod.mk.injEq, and_true] at h
        obtain ⟨rfl, rfl⟩ := h
        have h1 := shape_once (c := 59) hp (Classical.not_not.1 h0)
        have hlen := congrArg List.length h1
        have hns : numS (val (digs s p) : Int) = dg (val (digs s p)) ++ [59] := by simp [numS]
        have hD : dend s p = p + (digs s p).length := rfl
        have hel := dend_le hp
        rw [hns]
        simp only [List.length_append, List.length_cons, List.length_drop, List.length_nil] at hlen ⊢
        have hok := shape_lt (Classical.not_not.1 h0) hel
        refine ⟨?_, by omega, by omega, by omega⟩
        rw [show ((dend s p : Int) + 1).toNat = dend s p + 1 by omega]
        rw [h1]; simp
  | true =>
    obtain ⟨hpl, h45⟩ := hl rfl
    simp only [if_true] at h
    unfold numT at h
    simp only [true_and, if_true] at h
    split at h
    · simp only [Prod.mk.injEq] at h; rename_i h0; exact absurd h.2.2 h0
    · rename_i h0
      split at h
      · simp at h
      · rename_i hz
        split at h
        · simp at h
        · rename_i hm
          simp only [Prod.mk.injEq, and_true] at h
          obtain ⟨rfl, rfl⟩ := h
          have h1 := shape_once (s := s) (c := 59) (p := p + 1) (by omega) (Classical.not_not.1 h0)
          have hel := dend_le (s := s) (p := p + 1) (by omega)
          have hok := shape_lt (Classical.not_not.1 h0) hel
          have hD : dend s (p + 1) = p + 1 + (digs s (p + 1)).length := rfl
          have hpos : 0 < val (digs s (p + 1)) := by
            apply Nat.pos_of_ne_zero; intro hv
            rw [hv, dg_zero] at h1
            have hlen := congrArg List.length h1
            simp only [List.length_append, List.length_cons, List.length_drop, List.length_nil] at hlen
            apply hz
            refine ⟨by omega, ?_⟩
            have : (s.drop (p + 1))[0]? = some 48 := by rw [h1]; rfl
            rw [List.getElem?_drop] at this
            rw [bAt_of (by simpa using this)]; rfl
          have hns : numS (-(val (digs s (p + 1)) : Int)) = 45 :: (dg (val (digs s (p + 1))) ++ [59]) := by
            unfold numS; rw [if_pos (by omega), show (-(val (digs s (p + 1)) : Int)).natAbs = val (digs s (p + 1)) by omega]; simp
          have e : s.drop p = 45 :: s.drop (p + 1) := by
            have hc := bAt_some (c := 45) hpl h45
            rw [List.drop_eq_getElem_cons hpl]; congr 1
            rw [List.getElem?_eq_getElem hpl] at hc; exact Option.some.inj hc
          have hlen := congrArg List.length h1
          rw [hns]
          simp only [List.length_append, List.length_cons, List.length_drop, List.length_nil] at hlen ⊢
          refine ⟨?_, by omega, by omega, by omega⟩
          rw [show ((dend s (p + 1) : Int) + 1).toNat = dend s (p + 1) + 1 by omega]
          rw [e, h1]; simp
end Go.Aff.L01
