/- Layer 9, plainly: places, beginnings, orders. -/
import Derived.Test.YtnoopjlfcdmdfaaL09a
namespace Go.Aff.L09
set_option linter.unusedVariables false
set_option linter.unusedSimpArgs false

theorem cnt_mono {c : Int} {h : List UInt8} {i j : Nat} (hij : i ≤ j) : cnt c (h.take i) ≤ cnt c (h.take j) := by
  have : h.take i = (h.take j).take i := by rw [List.take_take, Nat.min_eq_left hij]
  rw [this]
  exact List.Sublist.countP_le (List.take_sublist _ _)
theorem placeL_spec {c : Int} {h : List UInt8} {i : Nat} {b : UInt8} (hb : h[i]? = some b) (hc : isC c b = true) : ∀ (d j : Nat), d + j = i → placeL c ((cnt c (h.take (i + 1)) : Nat) : Int) (h.drop j) j (cnt c (h.take j)) = i
  | 0, j, hj => by
    obtain rfl : j = i := by omega
    rw [placeL_step hb, if_pos ⟨hc, rfl⟩]
  | d + 1, j, hj => by
    have hlt := (List.getElem?_eq_some_iff.1 hb).1
    have hjb : h[j]? = some h[j] := List.getElem?_eq_getElem (by omega)
    rw [placeL_step hjb, if_neg, placeL_spec hb hc d (j + 1) (by omega)]
    rintro ⟨_, he⟩
    have h1 := cnt_take (c := c) hb
    rw [if_pos hc] at h1
    have h2 := cnt_mono (c := c) (h := h) (i := j + 1) (j := i) (by omega)
    omega
theorem place_spec {c : Int} {h : List UInt8} {i : Nat} {b : UInt8} (hb : h[i]? = some b) (hc : isC c b = true) : place h c ((cnt c (h.take (i + 1)) : Nat) : Int) = i := by
  have := placeL_spec hb hc i 0 (by omega)
  simpa [place, cnt] using this
theorem place_range {c n : Int} {h : List UInt8} : place h c n = -1 ∨ (0 ≤ place h c n ∧ place h c n < h.length) := by
  have := placeL_range (c := c) (n := n) (r := h) (i := 0) (k := 0)
  unfold place; omega
theorem uptoL_some {c : Int} {h : List UInt8} : ∀ n, n ≤ h.length → cnt c (h.take n) = cnt c h → cnt c h ≠ 0 → uptoL c h n = h.take ((place h c (cnt c h)).toNat + 1) ∧ 0 ≤ place h c (cnt c h)
  | 0, _, h1, h2 => absurd h1.symm h2
  | n + 1, hn, h1, h2 => by
    have hb : h[n]? = some h[n] := List.getElem?_eq_getElem (by omega)
    have hct := cnt_take (c := c) hb
    simp only [uptoL, hb]
    split
    · rename_i hc
      have := place_spec hb hc
      rw [h1] at this
      rw [this]; simp
    · rename_i hc
      rw [if_neg hc] at hct
      exact uptoL_some n (by omega) (by omega) h2
theorem uptoL_none {c : Int} {h : List UInt8} (h0 : cnt c h = 0) : ∀ n, uptoL c h n = []
  | 0 => rfl
  | n + 1 => by
    simp only [uptoL]
    split
    · rename_i b hb
      rw [if_neg]
      · exact uptoL_none h0 n
      · have hm : b ∈ h := List.mem_iff_getElem?.2 ⟨n, hb⟩
        unfold cnt at h0
        rw [List.countP_eq_zero] at h0
        exact h0 b hm
    · exact uptoL_none h0 n
theorem upto_none {c : Int} {h : List UInt8} (h0 : cnt c h = 0) : upto h c = [] := uptoL_none h0 _
theorem upto_some {c : Int} {h : List UInt8} (h0 : cnt c h ≠ 0) : upto h c = h.take ((place h c (cnt c h)).toNat + 1) ∧ 0 ≤ place h c (cnt c h) := uptoL_some _ (Nat.le_refl _) (by rw [List.take_length]) h0

/-! ### Growing -/
theorem placeL_append {c n : Int} : ∀ {h more : List UInt8} {i k : Nat}, placeL c n h i k ≠ -1 → placeL c n (h ++ more) i k = placeL c n h i k
  | [], more, i, k, hh => absurd rfl hh
  | b :: r, more, i, k, hh => by
    simp only [List.cons_append, placeL] at hh ⊢
    split
    · rename_i hc
      rw [if_pos hc] at hh
      split
      · rfl
      · rename_i hn
        rw [if_neg hn] at hh
        exact placeL_append hh
    · rename_i hc
      rw [if_neg hc] at hh
      exact placeL_append hh
theorem placeL_found {c : Int} : ∀ {h : List UInt8} {i k n : Nat}, k < n → n ≤ k + cnt c h → placeL c (n : Nat) h i k ≠ -1
  | [], i, k, n, h1, h2 => by simp [cnt] at h2; omega
  | b :: r, i, k, n, h1, h2 => by
    have hcc : cnt c (b :: r) = cnt c r + if isC c b = true then 1 else 0 := by simp [cnt, List.countP_cons]
    simp only [placeL]
    split
    · rename_i hc
      rw [if_pos hc] at hcc
      split
      · omega
      · rename_i hn
        exact placeL_found (by omega) (by omega)
    · rename_i hc
      rw [if_neg hc] at hcc
      exact placeL_found h1 (by omega)
theorem place_append {c : Int} {h more : List UInt8} {n : Nat} (h1 : 1 ≤ n) (h2 : n ≤ cnt c h) : place (h ++ more) c n = place h c n :=
  placeL_append (placeL_found (by omega) (by omega))
theorem upto_prefix {c : Int} {h : List UInt8} : upto h c <+: h := by
  by_cases h0 : cnt c h = 0
  · rw [upto_none h0]; exact List.nil_prefix
  · rw [(upto_some h0).1]; exact List.take_prefix _ _
theorem cnt_upto {c : Int} {h : List UInt8} : cnt c (upto h c) = cnt c h := by
  have key : ∀ n, n ≤ h.length → cnt c (h.take n) = cnt c h → cnt c (uptoL c h n) = cnt c h := by
    intro n
    induction n with
    | zero => intro _ h1; simpa [uptoL] using h1
    | succ n ih =>
      intro hn h1
      have hb : h[n]? = some h[n] := List.getElem?_eq_getElem (by omega)
      have hct := cnt_take (c := c) hb
      simp only [uptoL, hb]
      split
      · exact h1
      · rename_i hc
        rw [if_neg hc] at hct
        exact ih (by omega) (by omega)
  exact key _ (Nat.le_refl _) (by rw [List.take_length])
theorem upto_append {c : Int} {h more : List UInt8} (h0 : cnt c more = 0) : upto (h ++ more) c = upto h c := by
  have hcc : cnt c (h ++ more) = cnt c h := by rw [cnt_append, h0]; rfl
  by_cases hz : cnt c h = 0
  · rw [upto_none hz, upto_none (by omega)]
  · obtain ⟨h1, h2⟩ := upto_some hz
    obtain ⟨h3, h4⟩ := upto_some (c := c) (h := h ++ more) (by omega)
    rw [h1, h3, hcc, place_append (by omega) (Nat.le_refl _)]
    have := place_range (c := c) (n := cnt c h) (h := h)
    rw [List.take_append_of_le_length (by omega)]

/-! ### Going on, fitting -/
def goes (long short : List UInt8) : Bool := decide (short <+: long)
theorem goes_refl {a : List UInt8} : goes a a = true := by simp [goes]
theorem goes_antisymm {a b : List UInt8} (h1 : goes a b = true) (h2 : goes b a = true) : a = b := by
  simp only [goes, decide_eq_true_eq] at h1 h2
  exact h2.eq_of_length_le h1.length_le
theorem goes_trans {a b c : List UInt8} (h1 : goes a b = true) (h2 : goes b c = true) : goes a c = true := by
  simp only [goes, decide_eq_true_eq] at *
  exact h2.trans h1
theorem fit_eq {a b : List UInt8} : fit a b = (goes a b || goes b a) := by simp [fit, goes]
theorem fit_symm {a b : List UInt8} : fit a b = fit b a := by simp [fit, or_comm]
theorem goes_fit {a b c : List UInt8} (h1 : goes a b = true) (h2 : goes a c = true) : fit b c = true := by
  simp only [goes, fit, decide_eq_true_eq] at *
  rcases Nat.le_total b.length c.length with h | h
  · exact .inr (List.prefix_of_prefix_length_le h1 h2 h)
  · exact .inl (List.prefix_of_prefix_length_le h2 h1 h)
theorem longer_eq {a b : List UInt8} : longer a b = if goes b a = true then b else a := by simp [longer, goes]
theorem longer_hist {a b : List UInt8} : (if a.length < b.length ∧ goes b a = true then b else a) = longer a b := by
  rw [longer_eq]
  by_cases h : goes b a = true
  · by_cases hl : a.length < b.length
    · rw [if_pos ⟨hl, h⟩, if_pos h]
    · rw [if_neg (fun h => hl h.1), if_pos h]
      simp only [goes, decide_eq_true_eq] at h
      exact h.eq_of_length_le (by omega)
  · rw [if_neg (fun x => h x.2), if_neg h]
theorem longer_goes {a b : List UInt8} (h : fit a b = true) : goes (longer a b) a = true ∧ goes (longer a b) b = true := by
  rw [longer_eq]
  rw [fit_eq, Bool.or_eq_true] at h
  split
  · rename_i hb; exact ⟨hb, goes_refl⟩
  · rename_i hb
    rcases h with h | h
    · exact ⟨goes_refl, h⟩
    · exact absurd h hb
theorem longer_or {a b : List UInt8} : longer a b = a ∨ longer a b = b := by rw [longer_eq]; split <;> simp
theorem goes_step {a b : List UInt8} {i : Nat} (hi : ∀ k, k < i → a[k]? = b[k]?) (hl : b.length ≤ a.length) (h : i = b.length) : goes a b = true := by
  simp only [goes, decide_eq_true_eq, List.prefix_iff_eq_take]
  apply List.ext_getElem?
  intro k
  rw [List.getElem?_take]
  split
  · exact (hi k (by omega)).symm
  · exact List.getElem?_eq_none (by omega)
theorem goes_not {a b : List UInt8} {i : Nat} {x y : UInt8} (hx : a[i]? = some x) (hy : b[i]? = some y) (h : x ≠ y) : goes a b = false := by
  simp only [goes, decide_eq_false_iff_not]
  rintro ⟨r, rfl⟩
  rw [List.getElem?_append_left (List.getElem?_eq_some_iff.1 hy).1, hy] at hx
  cases hx; exact h rfl

/-! ### Forks -/
def allBefore (l : List (List UInt8)) (k i : Nat) : Prop := ∀ k' i', i' < k' → (k' < k ∨ k' = k ∧ i' < i) → ∀ x y, l[i']? = some x → l[k']? = some y → fit x y = true
def ForkP (l : List (List UInt8)) (a b : Int) : Prop :=
  (∃ (i k : Nat) (x y : List UInt8), i < k ∧ l[i]? = some x ∧ l[k]? = some y ∧ fit x y = false ∧ allBefore l k i ∧ a = i ∧ b = k) ∨ (allBefore l l.length 0 ∧ a = -1 ∧ b = -1)
theorem allBefore_zero {l : List (List UInt8)} : allBefore l 0 0 := fun k' i' h h' => by omega
theorem allBefore_step {l : List (List UInt8)} {k i : Nat} {x y : List UInt8} (h : allBefore l k i) (hx : l[i]? = some x) (hy : l[k]? = some y) (hf : fit x y = true) : allBefore l k (i + 1) := by
  intro k' i' h1 h2 u v hu hv
  by_cases e : k' = k ∧ i' = i
  · obtain ⟨rfl, rfl⟩ := e
    rw [hx] at hu; rw [hy] at hv; cases hu; cases hv; exact hf
  · exact h k' i' h1 (by omega) u v hu hv
theorem allBefore_row {l : List (List UInt8)} {k : Nat} (h : allBefore l k k) : allBefore l (k + 1) 0 := fun k' i' h1 h2 => h k' i' h1 (by omega)
/-- The first pair that does not fit is one. -/
theorem fork_found {l : List (List UInt8)} {a b : Int} {k i : Nat} {x y : List UInt8} (hF : ForkP l a b) (h : allBefore l k i) (hik : i < k) (hx : l[i]? = some x) (hy : l[k]? = some y) (hf : fit x y = false) : a = i ∧ b = k := by
  rcases hF with ⟨i2, k2, x2, y2, h1, hx2, hy2, hf2, hb, rfl, rfl⟩ | ⟨hb, _, _⟩
  · by_cases e : k2 = k ∧ i2 = i
    · obtain ⟨rfl, rfl⟩ := e; exact ⟨rfl, rfl⟩
    · by_cases hlt : k2 < k ∨ k2 = k ∧ i2 < i
      · have := h k2 i2 h1 hlt x2 y2 hx2 hy2; rw [hf2] at this; cases this
      · have := hb k i hik (by omega) x y hx hy; rw [hf] at this; cases this
  · have hlt := (List.getElem?_eq_some_iff.1 hy).1
    have := hb k i hik (.inl hlt) x y hx hy; rw [hf] at this; cases this
theorem fork_none {l : List (List UInt8)} {a b : Int} (hF : ForkP l a b) (h : allBefore l l.length 0) : a = -1 ∧ b = -1 := by
  rcases hF with ⟨i2, k2, x2, y2, h1, hx2, hy2, hf2, hb, rfl, rfl⟩ | ⟨_, h1, h2⟩
  · have hlt := (List.getElem?_eq_some_iff.1 hy2).1
    have := h k2 i2 h1 (.inl hlt) x2 y2 hx2 hy2; rw [hf2] at this; cases this
  · exact ⟨h1, h2⟩
end Go.Aff.L09
