/- Layer 1, walked: a number that is read. -/
import Derived.Test.YtfomojflekepoaaW01c
namespace Go.Aff.L01
open Go.Proofs Go.Aff
set_option linter.unusedVariables false
set_option linter.unusedSimpArgs false
attribute [local go_sem] Try.underlying3 Try.underlying4 Try.underlying5 Try.underlying9 Try.underlying51 Try.underlying53 Try.underlying27

theorem shape_c {s : List UInt8} {p e last : Nat} (hp : p ≤ e) (he : e ≤ s.length) {σ : AST} {K : AV → AST → Prop} (hK : K (.int .i64 (shapeS s p e last)) σ) : TCalls Try.prog 35 [.str s, .int .i64 p, .int .i64 e, .int .u8 last] σ K := by
  refine tcalls_walk Try.f35 _ [.tmp 8] Try.func35 rfl rfl rfl mixed (Nat.le_of_ble_eq_true rfl) rfl fun hlen => ?_
  have hs : s.length ≤ 9223372036854775807 := hlen (.str s) (by simp)
  unfold shapeS at hK
  simp -dsimp only [↓reduceIte, go_sem]
  refine arr_intro fun _ => ?_
  simp -dsimp only [↓reduceIte, go_sem]
  refine boolW_split (fun hb => ?_) (fun hb => ?_)
  · have hb : e = s.length := by simp at hb; omega
    rw [if_pos hb] at hK
    simp -dsimp only [↓reduceIte, go_sem]
    exact hK
  · have hb : ¬ e = s.length := by simp at hb; omega
    rw [if_neg hb] at hK
    obtain ⟨be, hbe⟩ := get_lt (l := s) (i := e) (by omega)
    rw [bAt_of hbe] at hK
    simp -dsimp only [↓reduceIte, go_sem]
    refine guardV_split (fun h1 => ?_) (fun h1 => ?_) <;> (try rw [h1])
    · have h1 : ¬ e = p := by simp at h1; omega
      obtain ⟨bp, hbp⟩ := get_lt (l := s) (i := p) (by omega)
      rw [bAt_of hbp] at hK
      simp -dsimp only [↓reduceIte, go_sem]
      refine nth_get hbe ?_
      simp -dsimp only [↓reduceIte, go_sem]
      refine guardV_split (fun h2 => ?_) (fun h2 => ?_) <;> (try rw [h2])
      · have h2 : be.toNat = last := by simp at h2; omega
        simp -dsimp only [↓reduceIte, go_sem]
        rw [wrap_i64 (by omega) (by omega)]
        refine guardV_split (fun h3 => ?_) (fun h3 => ?_) <;> (try rw [h3])
        · have h3 : 1 < e - p := by simp at h3; omega
          simp -dsimp only [↓reduceIte, go_sem]
          refine nth_get hbp ?_
          simp -dsimp only [↓reduceIte, go_sem]
          refine boolW_split (fun h4 => ?_) (fun h4 => ?_)
          · have h4 : bp.toNat = 48 := by simp at h4; omega
            rw [if_pos (.inr (.inr ⟨h3, h4⟩))] at hK
            simp -dsimp only [↓reduceIte, go_sem]
            exact hK
          · have h4 : ¬ bp.toNat = 48 := by simp at h4; omega
            rw [if_neg (by omega)] at hK
            simp -dsimp only [↓reduceIte, go_sem]
            exact hK
        · have h3 : ¬ 1 < e - p := by simp at h3; omega
          rw [if_neg (by omega)] at hK
          simp -dsimp only [↓reduceIte, go_sem]
          exact hK
      · have h2 : ¬ be.toNat = last := by simp at h2; omega
        rw [if_pos (.inr (.inl h2))] at hK
        simp -dsimp only [↓reduceIte, go_sem]
        exact hK
    · have h1 : e = p := by simp at h1; omega
      rw [if_pos (.inl h1)] at hK
      simp -dsimp only [↓reduceIte, go_sem]
      exact hK

theorem shape_ok {s : List UInt8} {p e last : Nat} (h : shapeS s p e last = 0) (he : e ≤ s.length) : e < s.length ∧ e ≠ p := by
  unfold shapeS at h
  split at h
  · cases h
  · split at h
    · cases h
    · omega

theorem readNumber_c {s : List UInt8} {i : Int} (hi0 : -9223372036854775808 ≤ i) (hi1 : i ≤ 9223372036854775807) {σ : AST} {K : AV → AST → Prop}
    (hK : K (tup3 (numR s i)) σ) : TCalls Try.prog 19 [.str s, .int .i64 i] σ K := by
  refine tcalls_walk Try.f19 _ [.tmp 4, .tmp 5, .tmp 6] Try.func19 rfl rfl rfl mixed (Nat.le_of_ble_eq_true rfl) rfl fun hlen => ?_
  have hs : s.length ≤ 9223372036854775807 := hlen (.str s) (by simp)
  refine awp_seq_k fun KA hKA => ?_
  simp -dsimp only [↓reduceIte, go_sem]
  refine hKA _ _ (awp_seq_k fun KB hKB => ?_)
  have go : ∀ τ : Env, τ 0 = .str s → τ 1 = .int .i64 i → ¬ (i < 0 ∨ (s.length : Int) < i) → KB τ σ := by
    intro τ t0 t1 hok
    have hi : (i.toNat : Int) = i := by omega
    rw [numR, if_neg hok] at hK
    generalize hp : i.toNat = p at hi hK
    have hpl : p ≤ s.length := by omega
    rw [← hi] at t1
    refine hKB _ _ (awp_seq_k fun KC hKC => ?_)
    simp -dsimp only [↓reduceIte, go_sem, t0, t1]
    refine hKC _ _ (awp_seq_k fun KD hKD => ?_)
    rw [numP] at hK
    have tail : ∀ τ : Env, τ 0 = .str s → τ 1 = .int .i64 p → τ 7 = .int .u64 9223372036854775807 → τ 8 = .bool (lowB s p) → KD τ σ := by
      intro τ t0 t1 t7 t8
      refine hKD _ _ (awp_seq_k fun KE hKE => ?_)
      have hlp : lowB s p = true → p < s.length := fun h => by simp [lowB] at h; exact h.1
      generalize hlow : lowB s p = low at *
      have tail2 : ∀ (τ : Env) (q most : Nat), q = (if low then p + 1 else p) → most = (if low then 9223372036854775808 else 9223372036854775807) → τ 0 = .str s → τ 1 = .int .i64 q → τ 7 = .int .u64 most → τ 8 = .bool low → KE τ σ := by
        intro τ q most hq hmost t0 t1 t7 t8
        have hql : q ≤ s.length := by
          rw [hq]; split
          · rename_i h; have := hlp h; omega
          · exact hpl
        have hm1 : 9 ≤ most ∧ most ≤ 9223372036854775808 ∧ (low = false → most ≤ 9223372036854775807) := by rw [hmost]; cases low <;> simp
        have hel := dend_le hql
        have heq : q ≤ dend s q := by unfold dend; omega
        rw [← hq, ← hmost, numT] at hK
        refine hKE _ _ ?_
        simp -dsimp only [↓reduceIte, go_sem, t0, t1, t7, t8]
        refine run_c hql hm1.1 (by omega) ?_
        simp -dsimp only [↓reduceIte, go_sem, t0, t1, t7, t8]
        refine shape_c (last := 59) heq hel ?_
        generalize hval : val (digs s q) = v at *
        generalize hee : dend s q = e at *
        generalize hsh : shapeS s q e 59 = sh at *
        simp -dsimp only [↓reduceIte, go_sem, t0, t1, t7, t8]
        refine boolW_split (fun h1 => ?_) (fun h1 => ?_)
        · have h1 : sh ≠ 0 := by simp at h1; exact h1
          rw [if_pos h1] at hK
          simp -dsimp only [↓reduceIte, go_sem, t0, t1, t7, t8]
          exact hK
        · have h1 : sh = 0 := by simp at h1; exact h1
          rw [if_neg (by simp [h1])] at hK
          rw [h1] at hsh
          have hlt := shape_ok hsh hel
          obtain ⟨bq, hbq⟩ := get_lt (l := s) (i := q) (by omega)
          have hbq' := bAt_of hbq
          have big : ¬ v ≤ most → ¬ (low = true ∧ e = q + 1 ∧ bAt s q = 48) → K (tup3 (0, 0, 4)) σ := fun h h2 => by
            rw [if_neg h2, if_pos (by omega)] at hK; exact hK
          have fine : v ≤ most → ¬ (low = true ∧ e = q + 1 ∧ bAt s q = 48) → K (tup3 (if low then -(v : Int) else (v : Int), (e : Int) + 1, 0)) σ := fun h h2 => by
            rw [if_neg h2, if_neg (by omega)] at hK; exact hK
          cases low with
          | false =>
            simp -dsimp only [↓reduceIte, go_sem, t0, t1, t7, t8]
            refine boolW_split (fun h2 => ?_) (fun h2 => ?_)
            · have h2 : ¬ v ≤ most := by simp at h2; omega
              simp -dsimp only [↓reduceIte, go_sem, t0, t1, t7, t8]
              exact big h2 (by simp)
            · have h2 : v ≤ most := by simp at h2; omega
              have := hm1.2.2 rfl
              simp -dsimp only [↓reduceIte, go_sem, t0, t1, t7, t8]
              have h3 := fine h2 (by simp)
              rw [wrap_i64 (by omega) (by omega), wrap_i64 (by omega) (by omega)]
              rw [show v % 18446744073709551616 = v by omega]
              exact h3
          | true =>
            simp -dsimp only [↓reduceIte, go_sem, t0, t1, t7, t8]
            rw [wrap_i64 (by omega) (by omega)]
            refine guardV_split (fun h2 => ?_) (fun h2 => ?_) <;> (try rw [h2])
            · have h2 : e = q + 1 := by simp at h2; omega
              simp -dsimp only [↓reduceIte, go_sem, t0, t1, t7, t8]
              refine nth_get hbq ?_
              simp -dsimp only [↓reduceIte, go_sem, t0, t1, t7, t8]
              refine boolW_split (fun h3 => ?_) (fun h3 => ?_)
              · have h3 : bq.toNat = 48 := by simp at h3; omega
                rw [if_pos ⟨rfl, h2, by rw [hbq']; exact h3⟩] at hK
                simp -dsimp only [↓reduceIte, go_sem, t0, t1, t7, t8]
                exact hK
              · have h3 : ¬ bq.toNat = 48 := by simp at h3; omega
                have hno : ¬ (true = true ∧ e = q + 1 ∧ bAt s q = 48) := by rw [hbq']; simp [h3]
                simp -dsimp only [↓reduceIte, go_sem, t0, t1, t7, t8]
                refine boolW_split (fun h4 => ?_) (fun h4 => ?_)
                · have h4 : ¬ v ≤ most := by simp at h4; omega
                  simp -dsimp only [↓reduceIte, go_sem, t0, t1, t7, t8]
                  exact big h4 hno
                · have h4 : v ≤ most := by simp at h4; omega
                  simp -dsimp only [↓reduceIte, go_sem, t0, t1, t7, t8]
                  have h5 := fine h4 hno
                  rw [wrap_i64 (n := (e : Int) + 1) (by omega) (by omega)]
                  rw [show IntKind.i64.wrap (IntKind.u64.wrap (0 - ((v % 18446744073709551616 : Nat) : Int))) = -(v : Int) by rw [IntKind.wrap_i64, IntKind.wrap_u64]; omega]
                  exact h5
            · have h2 : ¬ e = q + 1 := by simp at h2; omega
              have hno : ¬ (true = true ∧ e = q + 1 ∧ bAt s q = 48) := by simp [h2]
              simp -dsimp only [↓reduceIte, go_sem, t0, t1, t7, t8]
              refine boolW_split (fun h4 => ?_) (fun h4 => ?_)
              · have h4 : ¬ v ≤ most := by simp at h4; omega
                simp -dsimp only [↓reduceIte, go_sem, t0, t1, t7, t8]
                exact big h4 hno
              · have h4 : v ≤ most := by simp at h4; omega
                simp -dsimp only [↓reduceIte, go_sem, t0, t1, t7, t8]
                have h5 := fine h4 hno
                rw [wrap_i64 (n := (e : Int) + 1) (by omega) (by omega)]
                rw [show IntKind.i64.wrap (IntKind.u64.wrap (0 - ((v % 18446744073709551616 : Nat) : Int))) = -(v : Int) by rw [IntKind.wrap_i64, IntKind.wrap_u64]; omega]
                exact h5
      simp -dsimp only [↓reduceIte, go_sem, t0, t1, t7, t8]
      cases low with
      | false =>
        simp -dsimp only [↓reduceIte, go_sem, t0, t1, t7, t8]
        refine tail2 _ p _ rfl rfl ?_ ?_ ?_ ?_ <;> simp only [go_sem, t0, t1, t7, t8]
        rfl
      | true =>
        have := hlp rfl
        simp -dsimp only [↓reduceIte, go_sem, t0, t1, t7, t8]
        rw [wrap_i64 (by omega) (by omega), wrap_u64 (by omega) (by omega)]
        refine tail2 _ (p + 1) _ rfl rfl ?_ ?_ ?_ ?_ <;> simp only [go_sem, t0, t1, t7, t8]
        · rfl
        · rfl
    simp -dsimp only [↓reduceIte, go_sem, t0, t1]
    refine arr_intro fun _ => ?_
    simp -dsimp only [↓reduceIte, go_sem, t0, t1]
    refine guardV_split (fun h1 => ?_) (fun h1 => ?_) <;> (try rw [h1])
    · have h1 : p < s.length := by simp at h1; omega
      obtain ⟨b, hb⟩ := get_lt h1
      simp -dsimp only [↓reduceIte, go_sem, t0, t1]
      refine nth_get hb ?_
      simp -dsimp only [↓reduceIte, go_sem, t0, t1]
      refine tail _ ?_ ?_ ?_ ?_ <;> simp only [go_sem, t0, t1]
      congr 1
      rw [lowB, bAt_of hb, Bool.eq_iff_iff]
      simp [h1]
      omega
    · have h1 : ¬ p < s.length := by simp at h1; omega
      simp -dsimp only [↓reduceIte, go_sem, t0, t1]
      refine tail _ ?_ ?_ ?_ ?_ <;> simp only [go_sem, t0, t1]
      simp [lowB, h1]
  have bad : i < 0 ∨ (s.length : Int) < i → K (tup3 (0, 0, 3)) σ := fun h => by
    rw [numR, if_pos h] at hK; exact hK
  simp -dsimp only [↓reduceIte, go_sem]
  refine guardV_split (fun h1 => ?_) (fun h1 => ?_) <;> (try rw [h1])
  · have h1 : ¬ i < 0 := by simpa using h1
    simp -dsimp only [↓reduceIte, go_sem]
    refine arr_intro fun _ => ?_
    simp -dsimp only [↓reduceIte, go_sem]
    refine boolW_split (fun h2 => ?_) (fun h2 => ?_)
    · have h2 : (s.length : Int) < i := by simpa using h2
      simp -dsimp only [↓reduceIte, go_sem]
      exact bad (.inr h2)
    · have h2 : ¬ (s.length : Int) < i := by simpa using h2
      simp -dsimp only [↓reduceIte, go_sem]
      refine go _ ?_ ?_ (by omega) <;> simp only [go_sem]
  · have h1 : i < 0 := by simpa using h1
    simp -dsimp only [↓reduceIte, go_sem]
    exact bad (.inl h1)
end Go.Aff.L01
