/- Layer 9, walked: which histories may be; counts, places, ends. -/
import Derived.Test.YtnoopjlfcdmdfaaW09b
import Derived.Test.YtnoopjlfcdmdfaaL09b
namespace Go.Aff.L09
open Go.Proofs Go.Aff
set_option linter.unusedVariables false
set_option linter.unusedSimpArgs false
attribute [local go_sem] Try.underlying3 Try.underlying4 Try.underlying5 Try.underlying9 Try.underlying33 fits3 fits9

theorem few_c {h : List UInt8} {σ : AST} {K : AV → AST → Prop} (hK : K (.str (h.take 700)) σ) : TCalls Try.prog 8 [.str h] σ K := by
  refine tcalls_walk Try.f8 _ [.tmp 2] Try.func8 rfl rfl rfl mixed (Nat.le_of_ble_eq_true rfl) rfl fun hlen => ?_
  simp -dsimp only [↓reduceIte, go_sem]
  refine arr_intro fun _ => ?_
  simp -dsimp only [↓reduceIte, go_sem]
  refine boolW_split (fun hb => ?_) (fun hb => ?_)
  · have hb : 700 < h.length := by simp at hb; omega
    simp -dsimp only [↓reduceIte, go_sem]
    refine side_later (by omega) ?_
    simp -dsimp only [↓reduceIte, go_sem]
    exact hK
  · have hb : ¬ 700 < h.length := by simp at hb; omega
    simp -dsimp only [↓reduceIte, go_sem]
    rw [List.take_of_length_le (by omega)] at hK
    exact hK

theorem all_take {h : List UInt8} {i : Nat} {b : UInt8} {p : UInt8 → Bool} (hb : h[i]? = some b) : (h.take (i + 1)).all p = ((h.take i).all p && p b) := by
  rw [List.take_add_one, hb]; simp

theorem right_c {h : List UInt8} {n : Int} (h0 : -9223372036854775808 ≤ n) (h1 : n ≤ 9223372036854775807) {σ : AST} {K : AV → AST → Prop} (hK : K (.bool (right h n)) σ) : TCalls Try.prog 10 [.str h, .int .i64 n] σ K := by
  refine tcalls_walk Try.f10 _ [.tmp 4] Try.func10 rfl rfl rfl mixed (Nat.le_of_ble_eq_true rfl) rfl fun hlen => ?_
  have hs : h.length ≤ 9223372036854775807 := hlen (.str h) (by simp)
  simp -dsimp only [↓reduceIte, go_sem]
  refine arr_intro fun _ => ?_
  simp -dsimp only [↓reduceIte, go_sem]
  refine awp_rounds (fun (i : Nat) τ s => i ≤ h.length ∧ s = σ ∧ τ 0 = .str h ∧ τ 1 = .int .i64 n ∧ τ 7 = .int .i64 h.length ∧ τ 8 = .int .i64 i ∧ (h.take i).all (fun b => decide ((b.toNat : Int) < n)) = true) (fun i => h.length - i) 0 ?_ ?_
  · refine ⟨by omega, rfl, ?_, ?_, ?_, ?_, by simp⟩ <;> simp only [go_sem] <;> rfl
  · rintro i τ s ⟨hi, rfl, t0, t1, t7, t8, hall⟩
    simp -dsimp only [↓reduceIte, go_sem, t0, t1, t7, t8]
    refine boolW_split (fun hb => ?_) (fun hb => ?_)
    · have hb : i < h.length := by simp at hb; omega
      obtain ⟨b, hbb⟩ := get_lt hb
      have hbt := b.toNat_lt
      simp -dsimp only [↓reduceIte, go_sem, t0, t1, t7, t8]
      refine nth_get hbb ?_
      simp -dsimp only [↓reduceIte, go_sem, t0, t1, t7, t8]
      rw [wrap_i64 (n := (b.toNat : Int)) (by omega) (by omega)]
      refine boolW_split (fun hc => ?_) (fun hc => ?_)
      · have hc : n ≤ b.toNat := by simpa using hc
        have : right h n = false := by
          unfold right
          rw [Bool.and_eq_false_iff]; left
          rw [List.all_eq_false]
          exact ⟨b, List.mem_iff_getElem?.2 ⟨i, hbb⟩, by simp; omega⟩
        rw [this] at hK
        simp -dsimp only [↓reduceIte, go_sem, t0, t1, t7, t8]
        exact hK
      · have hc : ¬ n ≤ b.toNat := by simpa using hc
        simp -dsimp only [↓reduceIte, go_sem, t0, t1, t7, t8]
        rw [wrap_i64 (by omega) (by omega)]
        refine later_intro ⟨i + 1, by omega, by omega, rfl, ?_, ?_, ?_, ?_, ?_⟩ <;> (try simp only [go_sem, t0, t1, t7, t8]) <;> try rfl
        rw [all_take hbb, hall]; simp; omega
    · have hb : i = h.length := by simp at hb; omega
      subst hb
      rw [List.take_length] at hall
      have hr : right h n = decide (h.length ≤ 512 ∧ 1 ≤ n ∧ n ≤ 256) := by unfold right; rw [hall]; simp
      rw [hr] at hK
      simp -dsimp only [↓reduceIte, go_sem, t0, t1, t7, t8]
      refine arr_intro fun _ => ?_
      simp -dsimp only [↓reduceIte, go_sem, t0, t1, t7, t8]
      refine guardV_split (fun h3 => ?_) (fun h3 => ?_) <;> (try rw [h3])
      · have h3 : h.length ≤ 512 := by simp at h3; omega
        simp -dsimp only [↓reduceIte, go_sem, t0, t1, t7, t8]
        refine guardV_split (fun h4 => ?_) (fun h4 => ?_) <;> (try rw [h4])
        · have h4 : 1 ≤ n := by simpa using h4
          simp -dsimp only [↓reduceIte, go_sem, t0, t1, t7, t8]
          rw [show decide (n ≤ 256) = decide (h.length ≤ 512 ∧ 1 ≤ n ∧ n ≤ 256) by simp [h3, h4]]
          exact hK
        · have h4 : ¬ 1 ≤ n := by simpa using h4
          simp -dsimp only [↓reduceIte, go_sem, t0, t1, t7, t8]
          rw [show decide (h.length ≤ 512 ∧ 1 ≤ n ∧ n ≤ 256) = false by simp; omega] at hK
          exact hK
      · have h3 : ¬ h.length ≤ 512 := by simp at h3; omega
        simp -dsimp only [↓reduceIte, go_sem, t0, t1, t7, t8]
        rw [show decide (h.length ≤ 512 ∧ 1 ≤ n ∧ n ≤ 256) = false by simp; omega] at hK
        exact hK

theorem Right_c {h : List UInt8} {n : Int} (h0 : -9223372036854775808 ≤ n) (h1 : n ≤ 9223372036854775807) {σ : AST} {K : AV → AST → Prop} (hK : K (.bool (right h n)) σ) : TCalls Try.prog 11 [.str h, .int .i64 n] σ K := by
  refine tcalls_walk Try.f11 _ [.tmp 4] Try.func11 rfl rfl rfl mixed (Nat.le_of_ble_eq_true rfl) rfl fun hlen => ?_
  have hs : h.length ≤ 9223372036854775807 := hlen (.str h) (by simp)
  have no : ¬ (h.length ≤ 512 ∧ 1 ≤ n ∧ n ≤ 256) → K (.bool false) σ := fun hno => by
    rw [show right h n = false by unfold right; rw [decide_eq_false hno, Bool.and_false]] at hK; exact hK
  simp -dsimp only [↓reduceIte, go_sem]
  refine guardV_split (fun h2 => ?_) (fun h2 => ?_) <;> (try rw [h2])
  · have h2 : 1 ≤ n := by simp at h2; omega
    simp -dsimp only [↓reduceIte, go_sem]
    refine guardV_split (fun h3 => ?_) (fun h3 => ?_) <;> (try rw [h3])
    · have h3 : n ≤ 256 := by simp at h3; omega
      simp -dsimp only [↓reduceIte, go_sem]
      refine arr_intro fun _ => ?_
      simp -dsimp only [↓reduceIte, go_sem]
      refine boolW_split (fun h4 => ?_) (fun h4 => ?_)
      · have h4 : 512 < h.length := by simp at h4; omega
        simp -dsimp only [↓reduceIte, go_sem]
        exact no (by omega)
      · have h4 : h.length ≤ 512 := by simp at h4; omega
        simp -dsimp only [↓reduceIte, go_sem]
        refine awp_rounds (fun (i : Nat) τ s => i ≤ h.length ∧ s = σ ∧ τ 0 = .str h ∧ τ 1 = .int .i64 n ∧ τ 5 = .int .i64 i ∧ (h.take i).all (fun b => decide ((b.toNat : Int) < n)) = true) (fun i => h.length - i) 0 ?_ ?_
        · refine ⟨by omega, rfl, ?_, ?_, ?_, by simp⟩ <;> simp only [go_sem] <;> rfl
        · rintro i τ s ⟨hi, rfl, t0, t1, t5, hall⟩
          simp -dsimp only [↓reduceIte, go_sem, t0, t1, t5]
          refine arr_intro fun _ => ?_
          simp -dsimp only [↓reduceIte, go_sem, t0, t1, t5]
          refine boolW_split (fun hb => ?_) (fun hb => ?_)
          · have hb : i < h.length := by simp at hb; omega
            obtain ⟨b, hbb⟩ := get_lt hb
            have hbt := b.toNat_lt
            simp -dsimp only [↓reduceIte, go_sem, t0, t1, t5]
            refine nth_get hbb ?_
            simp -dsimp only [↓reduceIte, go_sem, t0, t1, t5]
            rw [wrap_i64 (n := (b.toNat : Int)) (by omega) (by omega), wrap_i64 (n := n - 1) (by omega) (by omega)]
            refine boolW_split (fun hc => ?_) (fun hc => ?_)
            · have hc : n ≤ b.toNat := by simp at hc; omega
              have : right h n = false := by
                unfold right
                rw [Bool.and_eq_false_iff]; left
                rw [List.all_eq_false]
                exact ⟨b, List.mem_iff_getElem?.2 ⟨i, hbb⟩, by simp; omega⟩
              rw [this] at hK
              simp -dsimp only [↓reduceIte, go_sem, t0, t1, t5]
              exact hK
            · have hc : ¬ n ≤ b.toNat := by simp at hc; omega
              simp -dsimp only [↓reduceIte, go_sem, t0, t1, t5]
              rw [wrap_i64 (by omega) (by omega)]
              refine later_intro ⟨i + 1, by omega, by omega, rfl, ?_, ?_, ?_, ?_⟩ <;> (try simp only [go_sem, t0, t1, t5]) <;> try rfl
              rw [all_take hbb, hall]; simp; omega
          · have hb : i = h.length := by simp at hb; omega
            subst hb
            rw [List.take_length] at hall
            have hr : right h n = true := by unfold right; rw [hall]; simp; omega
            rw [hr] at hK
            simp -dsimp only [↓reduceIte, go_sem, t0, t1, t5]
            exact hK
    · have h3 : ¬ n ≤ 256 := by simp at h3; omega
      simp -dsimp only [↓reduceIte, go_sem]
      exact no (by omega)
  · have h2 : ¬ 1 ≤ n := by simp at h2; omega
    simp -dsimp only [↓reduceIte, go_sem]
    exact no (by omega)

theorem Count_c {h : List UInt8} {c : Int} {σ : AST} {K : AV → AST → Prop} (hK : K (.int .i64 (cnt c h)) σ) : TCalls Try.prog 13 [.str h, .int .i64 c] σ K := by
  refine tcalls_walk Try.f13 _ [.tmp 4] Try.func13 rfl rfl rfl mixed (Nat.le_of_ble_eq_true rfl) rfl fun hlen => ?_
  have hs : h.length ≤ 9223372036854775807 := hlen (.str h) (by simp)
  simp -dsimp only [↓reduceIte, go_sem]
  refine awp_rounds (fun (i : Nat) τ s => i ≤ h.length ∧ s = σ ∧ τ 0 = .str h ∧ τ 1 = .int .i64 c ∧ τ 6 = .int .i64 i ∧ τ 5 = .int .i64 (cnt c (h.take i) : Nat)) (fun i => h.length - i) 0 ?_ ?_
  · refine ⟨by omega, rfl, ?_, ?_, ?_, ?_⟩ <;> simp only [go_sem] <;> rfl
  · rintro i τ s ⟨hi, rfl, t0, t1, t6, t5⟩
    have hcl := cnt_take_le (c := c) (h := h) (i := i)
    simp -dsimp only [↓reduceIte, go_sem, t0, t1, t5, t6]
    refine arr_intro fun _ => ?_
    simp -dsimp only [↓reduceIte, go_sem, t0, t1, t5, t6]
    refine boolW_split (fun hb => ?_) (fun hb => ?_)
    · have hb : i < h.length := by simp at hb; omega
      obtain ⟨b, hbb⟩ := get_lt hb
      have hbt := b.toNat_lt
      have hct := cnt_take (c := c) hbb
      simp -dsimp only [↓reduceIte, go_sem, t0, t1, t5, t6]
      refine nth_get hbb ?_
      simp -dsimp only [↓reduceIte, go_sem, t0, t1, t5, t6]
      rw [wrap_i64 (n := (b.toNat : Int)) (by omega) (by omega)]
      refine boolW_split (fun hc => ?_) (fun hc => ?_)
      · have hc : isC c b = true := by simpa [isC] using hc
        rw [if_pos hc] at hct
        simp -dsimp only [↓reduceIte, go_sem, t0, t1, t5, t6]
        rw [wrap_i64 (n := (i : Int) + 1) (by omega) (by omega), wrap_i64 (by omega) (by omega)]
        refine later_intro ⟨i + 1, by omega, by omega, rfl, ?_, ?_, ?_, ?_⟩ <;> (try simp only [go_sem, t0, t1, t5, t6]) <;> try rfl
        rw [hct]; rfl
      · have hc : ¬ isC c b = true := by simpa [isC] using hc
        rw [if_neg hc] at hct
        simp -dsimp only [↓reduceIte, go_sem, t0, t1, t5, t6]
        rw [wrap_i64 (n := (i : Int) + 1) (by omega) (by omega)]
        refine later_intro ⟨i + 1, by omega, by omega, rfl, ?_, ?_, ?_, ?_⟩ <;> (try simp only [go_sem, t0, t1, t5, t6]) <;> try rfl
        rw [hct]; rfl
    · have hb : i = h.length := by simp at hb; omega
      subst hb
      rw [List.take_length] at t5
      simp -dsimp only [↓reduceIte, go_sem, t0, t1, t5, t6]
      exact hK

theorem Place_c {h : List UInt8} {c n : Int} {σ : AST} {K : AV → AST → Prop} (hK : K (.int .i64 (place h c n)) σ) : TCalls Try.prog 15 [.str h, .int .i64 c, .int .i64 n] σ K := by
  refine tcalls_walk Try.f15 _ [.tmp 6] Try.func15 rfl rfl rfl mixed (Nat.le_of_ble_eq_true rfl) rfl fun hlen => ?_
  have hs : h.length ≤ 9223372036854775807 := hlen (.str h) (by simp)
  simp -dsimp only [↓reduceIte, go_sem]
  refine awp_rounds (fun (i : Nat) τ s => i ≤ h.length ∧ s = σ ∧ τ 0 = .str h ∧ τ 1 = .int .i64 c ∧ τ 2 = .int .i64 n ∧ τ 7 = .int .i64 i ∧ placeL c n (h.drop i) i (cnt c (h.take i)) = place h c n) (fun i => h.length - i) 0 ?_ ?_
  · refine ⟨by omega, rfl, ?_, ?_, ?_, ?_, rfl⟩ <;> simp only [go_sem] <;> rfl
  · rintro i τ s ⟨hi, rfl, t0, t1, t2, t7, hp⟩
    simp -dsimp only [↓reduceIte, go_sem, t0, t1, t2, t7]
    refine arr_intro fun _ => ?_
    simp -dsimp only [↓reduceIte, go_sem, t0, t1, t2, t7]
    refine boolW_split (fun hb => ?_) (fun hb => ?_)
    · have hb : i < h.length := by simp at hb; omega
      obtain ⟨b, hbb⟩ := get_lt hb
      have hbt := b.toNat_lt
      rw [placeL_step hbb] at hp
      simp -dsimp only [↓reduceIte, go_sem, t0, t1, t2, t7]
      refine nth_get hbb ?_
      simp -dsimp only [↓reduceIte, go_sem, t0, t1, t2, t7]
      rw [wrap_i64 (n := (b.toNat : Int)) (by omega) (by omega)]
      refine guardV_split (fun hc => ?_) (fun hc => ?_) <;> (try rw [hc])
      · have hc : isC c b = true := by simpa [isC] using hc
        simp -dsimp only [↓reduceIte, go_sem, t0, t1, t2, t7]
        rw [wrap_i64 (n := (i : Int) + 1) (by omega) (by omega), show (i : Int) + 1 = ((i + 1 : Nat) : Int) by omega]
        refine side_later (by omega) ?_
        simp -dsimp only [↓reduceIte, go_sem, t0, t1, t2, t7]
        refine side_later (by omega) ?_
        simp -dsimp only [↓reduceIte, go_sem, t0, t1, t2, t7]
        refine Count_c ?_
        simp -dsimp only [↓reduceIte, go_sem, t0, t1, t2, t7]
        refine boolW_split (fun hn => ?_) (fun hn => ?_)
        · have hn : ((cnt c (h.take (i + 1)) : Nat) : Int) = n := by simpa using hn
          rw [if_pos ⟨hc, hn⟩] at hp
          simp -dsimp only [↓reduceIte, go_sem, t0, t1, t2, t7]
          rw [hp]; exact hK
        · have hn : ¬ ((cnt c (h.take (i + 1)) : Nat) : Int) = n := by simpa using hn
          rw [if_neg (fun h => hn h.2)] at hp
          simp -dsimp only [↓reduceIte, go_sem, t0, t1, t2, t7]
          rw [wrap_i64 (n := (i : Int) + 1) (by omega) (by omega)]
          refine later_intro ⟨i + 1, by omega, by omega, rfl, ?_, ?_, ?_, ?_, hp⟩ <;> (try simp only [go_sem, t0, t1, t2, t7]) <;> rfl
      · have hc : ¬ isC c b = true := by simpa [isC] using hc
        rw [if_neg (fun h => hc h.1)] at hp
        simp -dsimp only [↓reduceIte, go_sem, t0, t1, t2, t7]
        rw [wrap_i64 (n := (i : Int) + 1) (by omega) (by omega)]
        refine later_intro ⟨i + 1, by omega, by omega, rfl, ?_, ?_, ?_, ?_, hp⟩ <;> (try simp only [go_sem, t0, t1, t2, t7]) <;> rfl
    · have hb : i = h.length := by simp at hb; omega
      subst hb
      rw [placeL_end] at hp
      simp -dsimp only [↓reduceIte, go_sem, t0, t1, t2, t7]
      rw [hp]; exact hK
end Go.Aff.L09
