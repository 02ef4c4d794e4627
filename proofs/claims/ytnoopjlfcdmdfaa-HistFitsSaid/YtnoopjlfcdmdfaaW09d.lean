/- Layer 9, walked: ends, beginnings, forks; awake. -/
import Derived.Test.YtnoopjlfcdmdfaaW09c
namespace Go.Aff.L09
open Go.Proofs Go.Aff
set_option linter.unusedVariables false
set_option linter.unusedSimpArgs false
attribute [local go_sem] Try.underlying3 Try.underlying4 Try.underlying5 Try.underlying9 Try.underlying33 fits3 fits9

theorem upto_c {h : List UInt8} {c : Int} {σ : AST} {K : AV → AST → Prop} (hK : K (.str (upto h c)) σ) : TCalls Try.prog 16 [.str h, .int .i64 c] σ K := by
  refine tcalls_walk Try.f16 _ [.tmp 4] Try.func16 rfl rfl rfl mixed (Nat.le_of_ble_eq_true rfl) rfl fun hlen => ?_
  have hs : h.length ≤ 9223372036854775807 := hlen (.str h) (by simp)
  simp -dsimp only [↓reduceIte, go_sem]
  refine arr_intro fun _ => ?_
  simp -dsimp only [↓reduceIte, go_sem]
  rw [wrap_i64 (by omega) (by omega)]
  refine awp_rounds (fun (i : Nat) τ s => i ≤ h.length ∧ s = σ ∧ τ 0 = .str h ∧ τ 1 = .int .i64 c ∧ τ 5 = .int .i64 ((i : Int) - 1) ∧ uptoL c h i = upto h c) (fun i => i) h.length ?_ ?_
  · refine ⟨by omega, rfl, ?_, ?_, ?_, rfl⟩ <;> simp only [go_sem] <;> rfl
  · rintro i τ s ⟨hi, rfl, t0, t1, t5, hu⟩
    simp -dsimp only [↓reduceIte, go_sem, t0, t1, t5]
    refine boolW_split (fun hb => ?_) (fun hb => ?_)
    · have hb : 0 < i := by simp at hb; omega
      obtain ⟨j, rfl⟩ : ∃ j, i = j + 1 := ⟨i - 1, by omega⟩
      have hj : (((j + 1 : Nat) : Int) - 1) = (j : Int) := by omega
      rw [hj] at t5
      obtain ⟨b, hbb⟩ := get_lt (l := h) (i := j) (by omega)
      have hbt := b.toNat_lt
      simp only [uptoL, hbb] at hu
      simp -dsimp only [↓reduceIte, go_sem, t0, t1, t5]
      refine nth_get hbb ?_
      simp -dsimp only [↓reduceIte, go_sem, t0, t1, t5]
      rw [wrap_i64 (n := (b.toNat : Int)) (by omega) (by omega)]
      refine boolW_split (fun hc => ?_) (fun hc => ?_)
      · have hc : isC c b = true := by simpa [isC] using hc
        rw [if_pos hc] at hu
        simp -dsimp only [↓reduceIte, go_sem, t0, t1, t5]
        rw [wrap_i64 (n := (j : Int) + 1) (by omega) (by omega), show (j : Int) + 1 = ((j + 1 : Nat) : Int) by omega]
        refine side_later (by omega) ?_
        simp -dsimp only [↓reduceIte, go_sem, t0, t1, t5]
        refine side_later (by omega) ?_
        simp -dsimp only [↓reduceIte, go_sem, t0, t1, t5]
        rw [hu]; exact hK
      · have hc : ¬ isC c b = true := by simpa [isC] using hc
        rw [if_neg hc] at hu
        simp -dsimp only [↓reduceIte, go_sem, t0, t1, t5]
        rw [wrap_i64 (n := (j : Int) - 1) (by omega) (by omega)]
        refine later_intro ⟨j, by omega, by omega, rfl, ?_, ?_, ?_, hu⟩ <;> (try simp only [go_sem, t0, t1, t5])
    · have hb : i = 0 := by simp at hb; omega
      subst hb
      simp -dsimp only [↓reduceIte, go_sem, t0, t1, t5]
      simp only [uptoL] at hu
      rw [hu]; exact hK

theorem Upto_c {h : List UInt8} {c : Int} {σ : AST} {K : AV → AST → Prop} (hK : K (.str (upto h c)) σ) : TCalls Try.prog 17 [.str h, .int .i64 c] σ K := by
  refine tcalls_walk Try.f17 _ [.tmp 4] Try.func17 rfl rfl rfl mixed (Nat.le_of_ble_eq_true rfl) rfl fun hlen => ?_
  have hs : h.length ≤ 9223372036854775807 := hlen (.str h) (by simp)
  simp -dsimp only [↓reduceIte, go_sem]
  refine Count_c ?_
  simp -dsimp only [↓reduceIte, go_sem]
  refine boolW_split (fun hb => ?_) (fun hb => ?_)
  · have hb : cnt c h = 0 := by simpa using hb
    rw [upto_none hb] at hK
    simp -dsimp only [↓reduceIte, go_sem]
    exact hK
  · have hb : cnt c h ≠ 0 := by simpa using hb
    obtain ⟨h1, h2⟩ := upto_some hb
    have h3 := place_range (c := c) (n := cnt c h) (h := h)
    simp -dsimp only [↓reduceIte, go_sem]
    refine Place_c ?_
    simp -dsimp only [↓reduceIte, go_sem]
    rw [wrap_i64 (by omega) (by omega), show place h c (cnt c h) + 1 = (((place h c (cnt c h)).toNat + 1 : Nat) : Int) by omega]
    refine side_later (by omega) ?_
    simp -dsimp only [↓reduceIte, go_sem]
    refine side_later (by omega) ?_
    simp -dsimp only [↓reduceIte, go_sem]
    rw [← h1]; exact hK

theorem hp2_c {a b : List UInt8} {σ : AST} {K : AV → AST → Prop} (hK : K (.bool (goes a b)) σ) : TCalls Try.prog 29 [.str a, .str b] σ K := by
  refine tcalls_walk Try.f29 _ [.tmp 4] Try.func29 rfl rfl rfl mixed (Nat.le_of_ble_eq_true rfl) rfl fun hlen => ?_
  simp -dsimp only [↓reduceIte, go_sem]
  refine arr_intro fun _ => ?_
  simp -dsimp only [↓reduceIte, go_sem]
  refine arr_intro fun _ => ?_
  simp -dsimp only [↓reduceIte, go_sem]
  refine guardV_split (fun h1 => ?_) (fun h1 => ?_) <;> (try rw [h1])
  · have h1 : b.length ≤ a.length := by simp at h1; omega
    simp -dsimp only [↓reduceIte, go_sem]
    refine arr_intro fun _ => ?_
    simp -dsimp only [↓reduceIte, go_sem]
    refine side_later (by omega) ?_
    simp -dsimp only [↓reduceIte, go_sem]
    refine side_later (by omega) ?_
    simp -dsimp only [↓reduceIte, go_sem]
    rw [show (a.take b.length == b) = goes a b by rw [Bool.eq_iff_iff]; simp [goes]; rw [List.prefix_iff_eq_take]; exact eq_comm]
    exact hK
  · have h1 : ¬ b.length ≤ a.length := by simp at h1; omega
    simp -dsimp only [↓reduceIte, go_sem]
    rw [show goes a b = false by simp [goes]; intro h; exact h1 h.length_le] at hK
    exact hK
theorem hp_c {a b : List UInt8} {σ : AST} {K : AV → AST → Prop} (hK : K (.bool (goes a b)) σ) : TCalls Try.prog 26 [.str a, .str b] σ K := by
  refine tcalls_walk Try.f26 _ [.tmp 4] Try.func26 rfl rfl rfl mixed (Nat.le_of_ble_eq_true rfl) rfl fun hlen => ?_
  simp -dsimp only [↓reduceIte, go_sem]
  refine hp2_c ?_
  simp -dsimp only [↓reduceIte, go_sem]
  exact hK
theorem goes_c {a b : List UInt8} {σ : AST} {K : AV → AST → Prop} (hK : K (.bool (goes a b)) σ) : TCalls Try.prog 18 [.str a, .str b] σ K := by
  refine tcalls_walk Try.f18 _ [.tmp 4] Try.func18 rfl rfl rfl mixed (Nat.le_of_ble_eq_true rfl) rfl fun hlen => ?_
  simp -dsimp only [↓reduceIte, go_sem]
  refine hp_c ?_
  simp -dsimp only [↓reduceIte, go_sem]
  exact hK

theorem Goes_c {a b : List UInt8} {σ : AST} {K : AV → AST → Prop} (hK : K (.bool (goes a b)) σ) : TCalls Try.prog 21 [.str a, .str b] σ K := by
  refine tcalls_walk Try.f21 _ [.tmp 4] Try.func21 rfl rfl rfl mixed (Nat.le_of_ble_eq_true rfl) rfl fun hlen => ?_
  have hsa : a.length ≤ 9223372036854775807 := hlen (.str a) (by simp)
  have hsb : b.length ≤ 9223372036854775807 := hlen (.str b) (by simp)
  simp -dsimp only [↓reduceIte, go_sem]
  refine arr_intro fun _ => ?_
  simp -dsimp only [↓reduceIte, go_sem]
  refine arr_intro fun _ => ?_
  simp -dsimp only [↓reduceIte, go_sem]
  refine boolW_split (fun h1 => ?_) (fun h1 => ?_)
  · have h1 : a.length < b.length := by simp at h1; omega
    rw [show goes a b = false by simp [goes]; intro h; have := h.length_le; omega] at hK
    simp -dsimp only [↓reduceIte, go_sem]
    exact hK
  · have h1 : b.length ≤ a.length := by simp at h1; omega
    simp -dsimp only [↓reduceIte, go_sem]
    refine awp_rounds (fun (i : Nat) τ s => i ≤ b.length ∧ s = σ ∧ τ 0 = .str a ∧ τ 1 = .str b ∧ τ 5 = .int .i64 i ∧ ∀ k, k < i → a[k]? = b[k]?) (fun i => b.length - i) 0 ?_ ?_
    · refine ⟨by omega, rfl, ?_, ?_, ?_, fun k hk => by omega⟩ <;> simp only [go_sem] <;> rfl
    · rintro i τ s ⟨hi, rfl, t0, t1, t5, hall⟩
      simp -dsimp only [↓reduceIte, go_sem, t0, t1, t5]
      refine arr_intro fun _ => ?_
      simp -dsimp only [↓reduceIte, go_sem, t0, t1, t5]
      refine boolW_split (fun hb => ?_) (fun hb => ?_)
      · have hb : i < b.length := by simp at hb; omega
        obtain ⟨x, hx⟩ := get_lt (l := a) (i := i) (by omega)
        obtain ⟨y, hy⟩ := get_lt hb
        have hxt := x.toNat_lt
        have hyt := y.toNat_lt
        simp -dsimp only [↓reduceIte, go_sem, t0, t1, t5]
        refine awp_drawS [0, 1, 2, 3, 4, 5, 6] (by kernel_rfl) ?_
        simp -dsimp only [↓reduceIte, go_sem, t0, t1, t5]
        refine nth_get hx ?_
        simp -dsimp only [↓reduceIte, go_sem, t0, t1, t5]
        refine nth_get hy ?_
        simp -dsimp only [↓reduceIte, go_sem, t0, t1, t5]
        refine boolW_split (fun hc => ?_) (fun hc => ?_)
        · have hc : x ≠ y := by
            intro e; subst e; simp at hc
          rw [goes_not hx hy hc] at hK
          simp -dsimp only [↓reduceIte, go_sem, t0, t1, t5]
          exact hK
        · have hc : x = y := by
            have : x.toNat = y.toNat := by simp at hc; omega
            exact UInt8.toNat_inj.1 this
          subst hc
          simp -dsimp only [↓reduceIte, go_sem, t0, t1, t5]
          rw [wrap_i64 (by omega) (by omega)]
          refine later_intro ⟨i + 1, by omega, by omega, rfl, ?_, ?_, ?_, fun k hk => ?_⟩ <;> (try simp only [go_sem, t0, t1, t5]) <;> try rfl
          by_cases hki : k = i
          · subst hki; rw [hx, hy]
          · exact hall k (by omega)
      · have hb : i = b.length := by simp at hb; omega
        rw [goes_step hall h1 hb] at hK
        simp -dsimp only [↓reduceIte, go_sem, t0, t1, t5]
        exact hK

theorem fit_c {a b : List UInt8} {σ : AST} {K : AV → AST → Prop} (hK : K (.bool (fit a b)) σ) : TCalls Try.prog 22 [.str a, .str b] σ K := by
  rw [fit_eq] at hK
  refine tcalls_walk Try.f22 _ [.tmp 4] Try.func22 rfl rfl rfl mixed (Nat.le_of_ble_eq_true rfl) rfl fun hlen => ?_
  simp -dsimp only [↓reduceIte, go_sem]
  refine goes_c ?_
  simp -dsimp only [↓reduceIte, go_sem]
  cases hg : goes a b with
  | true =>
    rw [hg] at hK
    simp -dsimp only [↓reduceIte, go_sem]
    exact hK
  | false =>
    rw [hg] at hK
    simp -dsimp only [↓reduceIte, go_sem]
    refine goes_c ?_
    simp -dsimp only [↓reduceIte, go_sem]
    exact hK
theorem Fit_c {a b : List UInt8} {σ : AST} {K : AV → AST → Prop} (hK : K (.bool (fit a b)) σ) : TCalls Try.prog 20 [.str a, .str b] σ K := by
  rw [fit_eq] at hK
  refine tcalls_walk Try.f20 _ [.tmp 4] Try.func20 rfl rfl rfl mixed (Nat.le_of_ble_eq_true rfl) rfl fun hlen => ?_
  simp -dsimp only [↓reduceIte, go_sem]
  refine Goes_c ?_
  simp -dsimp only [↓reduceIte, go_sem]
  cases hg : goes a b with
  | true =>
    rw [hg] at hK
    simp -dsimp only [↓reduceIte, go_sem]
    exact hK
  | false =>
    rw [hg] at hK
    simp -dsimp only [↓reduceIte, go_sem]
    refine Goes_c ?_
    simp -dsimp only [↓reduceIte, go_sem]
    exact hK
theorem longer_c {a b : List UInt8} {σ : AST} {K : AV → AST → Prop} (hK : K (.str (longer a b)) σ) : TCalls Try.prog 23 [.str a, .str b] σ K := by
  rw [← longer_hist] at hK
  refine tcalls_walk Try.f23 _ [.tmp 4] Try.func23 rfl rfl rfl mixed (Nat.le_of_ble_eq_true rfl) rfl fun hlen => ?_
  simp -dsimp only [↓reduceIte, go_sem]
  refine arr_intro fun _ => ?_
  simp -dsimp only [↓reduceIte, go_sem]
  refine arr_intro fun _ => ?_
  simp -dsimp only [↓reduceIte, go_sem]
  refine guardV_split (fun h1 => ?_) (fun h1 => ?_) <;> (try rw [h1])
  · have h1 : a.length < b.length := by simp at h1; omega
    simp -dsimp only [↓reduceIte, go_sem]
    refine goes_c ?_
    cases hg : goes b a with
    | true =>
      rw [hg, if_pos ⟨h1, rfl⟩] at hK
      simp -dsimp only [↓reduceIte, go_sem]
      exact hK
    | false =>
      rw [hg, if_neg (by simp)] at hK
      simp -dsimp only [↓reduceIte, go_sem]
      exact hK
  · have h1 : ¬ a.length < b.length := by simp at h1; omega
    rw [if_neg (fun h => h1 h.1)] at hK
    simp -dsimp only [↓reduceIte, go_sem]
    exact hK
theorem Longer_c {a b : List UInt8} {σ : AST} {K : AV → AST → Prop} (hK : K (.str (longer a b)) σ) : TCalls Try.prog 24 [.str a, .str b] σ K := by
  rw [longer_eq] at hK
  refine tcalls_walk Try.f24 _ [.tmp 4] Try.func24 rfl rfl rfl mixed (Nat.le_of_ble_eq_true rfl) rfl fun hlen => ?_
  simp -dsimp only [↓reduceIte, go_sem]
  refine Goes_c ?_
  cases hg : goes b a with
  | true =>
    rw [hg, if_pos rfl] at hK
    simp -dsimp only [↓reduceIte, go_sem]
    exact hK
  | false =>
    rw [hg, if_neg (by simp)] at hK
    simp -dsimp only [↓reduceIte, go_sem]
    exact hK
end Go.Aff.L09
