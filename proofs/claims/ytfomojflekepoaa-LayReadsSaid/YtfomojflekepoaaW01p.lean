/- Layer 1, walked: the reference's numbers that are read. -/
import Derived.Test.YtfomojflekepoaaW01o
import Derived.Test.YtfomojflekepoaaL01e
namespace Go.Aff.L01
open Go.Proofs Go.Aff
set_option linter.unusedVariables false
set_option linter.unusedSimpArgs false
attribute [local go_sem] Try.underlying3 Try.underlying4 Try.underlying5 Try.underlying9 Try.underlying51 Try.underlying53 Try.underlying27

theorem val_mono {D : List UInt8} : ∀ (k : Nat), val (D.take k) ≤ val D := by
  intro k
  by_cases h : D.length ≤ k
  · rw [List.take_of_length_le h]; exact Nat.le_refl _
  · induction hn : D.length - k generalizing k with
    | zero => omega
    | succ n ih =>
      obtain ⟨b, hb⟩ := get_lt (l := D) (i := k) (by omega)
      have h1 := val_take_succ hb
      by_cases h2 : D.length ≤ k + 1
      · rw [List.take_of_length_le h2] at h1; omega
      · have := ih (k + 1) h2 (by omega); omega

theorem one_zero {s : List UInt8} {q e : Nat} (h1 : q < e) (h2 : e ≤ s.length) : ((s.take e).drop q == [48]) = decide (e = q + 1 ∧ bAt s q = 48) := by
  obtain ⟨b, hb⟩ := get_lt (l := s) (i := q) (by omega)
  have hd : s.drop q = b :: s.drop (q + 1) := by
    rw [List.drop_eq_getElem_cons (by omega)]; congr 1
    rw [List.getElem?_eq_getElem (by omega)] at hb; exact Option.some.inj hb
  rw [bAt_of hb, Bool.eq_iff_iff, beq_iff_eq, decide_eq_true_eq, List.drop_take, hd]
  constructor
  · intro h
    have hl := congrArg List.length h
    simp only [List.length_take, List.length_cons, List.length_drop, List.length_nil] at hl
    have e1 : e = q + 1 := by omega
    refine ⟨e1, ?_⟩
    rw [e1, show q + 1 - q = 1 by omega] at h
    simp at h; rw [h]; rfl
  · rintro ⟨rfl, h⟩
    rw [show q + 1 - q = 1 by omega]
    simp; exact UInt8.toNat_inj.1 h

theorem ReadNumber_c {s : List UInt8} {i : Int} (hi0 : -9223372036854775808 ≤ i) (hi1 : i ≤ 9223372036854775807) {σ : AST} {K : AV → AST → Prop}
    (hK : K (tup3 (numR s i)) σ) : TCalls Try.prog 20 [.str s, .int .i64 i] σ K := by
  refine tcalls_walk Try.f20 _ [.tmp 4, .tmp 5, .tmp 6] Try.func20 rfl rfl rfl mixed (Nat.le_of_ble_eq_true rfl) rfl fun hlen => ?_
  have hs : s.length ≤ 9223372036854775807 := hlen (.str s) (by simp)
  refine awp_seq_k fun KA hKA => ?_
  simp -dsimp only [↓reduceIte, go_sem]
  refine hKA _ _ (awp_seq_k fun KB hKB => ?_)
  have go : ∀ τ : Env, τ 0 = .str s → τ 1 = .int .i64 i → ¬ (i < 0 ∨ (s.length : Int) < i) → KB τ σ := by
    intro τ t0 t1 hok
    have hi : (i.toNat : Int) = i := by omega
    rw [numR, if_neg hok] at hK
    generalize hp : i.toNat = p at hi hK
    have hpl : p ≤ s.length := by omega
    rw [← hi] at t1
    refine hKB _ _ (awp_seq_k fun KC hKC => ?_)
    simp -dsimp only [↓reduceIte, go_sem, t0, t1]
    refine hKC _ _ (awp_seq_k fun KD hKD => ?_)
    rw [numP] at hK
    have hlp : lowB s p = true → p < s.length := fun h => by simp [lowB] at h; exact h.1
    generalize hlow : lowB s p = low at *
    have tail : ∀ (τ : Env) (q most : Nat), q = (if low then p + 1 else p) → most = (if low then 9223372036854775808 else 9223372036854775807) → τ 0 = .str s → τ 1 = .int .i64 p → τ 7 = .int .i64 q → KD τ σ := by
      intro τ q most hq hmost t0 t1 t7
      have hql : q ≤ s.length := by
        rw [hq]; split
        · rename_i h; have := hlp h; omega
        · exact hpl
      have hqp : (low = true → q = p + 1 ∧ most = 9223372036854775808) ∧ (low = false → q = p ∧ most = 9223372036854775807) := by rw [hq, hmost]; cases low <;> simp
      have hel := dend_le hql
      have heq : q ≤ dend s q := by unfold dend; omega
      rw [← hq, ← hmost, numT] at hK
      refine hKD _ _ (awp_seq_k fun KE hKE => ?_)
      simp -dsimp only [↓reduceIte, go_sem, t0, t1, t7]
      refine end_c hql ?_
      simp -dsimp only [↓reduceIte, go_sem, t0, t1, t7]
      refine hKE _ _ (awp_seq_k fun KF hKF => ?_)
      simp -dsimp only [↓reduceIte, go_sem, t0, t1, t7]
      refine bad_c (last := 59) heq hel ?_
      simp -dsimp only [↓reduceIte, go_sem, t0, t1, t7]
      refine hKF _ _ (awp_seq_k fun KG hKG => ?_)
      generalize hsh : shapeS s q (dend s q) 59 = sh at *
      simp -dsimp only [↓reduceIte, go_sem, t0, t1, t7]
      refine boolW_split (fun h1 => ?_) (fun h1 => ?_)
      · have h1 : sh ≠ 0 := by simpa using h1
        rw [if_pos h1] at hK
        simp -dsimp only [↓reduceIte, go_sem, t0, t1, t7]
        exact hK
      · have h1 : sh = 0 := by simpa using h1
        rw [if_neg (by simp [h1])] at hK
        rw [h1] at hsh
        have hlt := shape_ok hsh hel
        have hee : dend s q = q + (digs s q).length := rfl
        have hDg : ∀ k, k < (digs s q).length → (digs s q)[k]? = s[q + k]? := fun k hk => digs_get hk
        have hDd : ∀ b ∈ digs s q, 48 ≤ b.toNat ∧ b.toNat ≤ 57 := fun b hb => by have := digs_isD b hb; simpa [isD] using this
        generalize hD : digs s q = D at *
        generalize hE : dend s q = e at *
        have big : most < val D → ¬ (low = true ∧ e = q + 1 ∧ bAt s q = 48) → K (tup3 (0, 0, 4)) σ := fun h h2 => by
          rw [if_neg h2, if_pos h] at hK; exact hK
        have fine : ¬ most < val D → ¬ (low = true ∧ e = q + 1 ∧ bAt s q = 48) → K (tup3 (if low then -(val D : Int) else (val D : Int), (e : Int) + 1, 0)) σ := fun h h2 => by
          rw [if_neg h2, if_neg h] at hK; exact hK
        simp -dsimp only [↓reduceIte, go_sem, t0, t1, t7]
        refine hKG _ _ (awp_seq_k fun KH hKH => ?_)
        have rest : ∀ τ : Env, τ 0 = .str s → τ 1 = .int .i64 p → τ 7 = .int .i64 q → τ 8 = .int .i64 e → ¬ (low = true ∧ e = q + 1 ∧ bAt s q = 48) → KH τ σ := by
          intro τ t0 t1 t7 t8 hno
          refine hKH _ _ ?_
          simp -dsimp only [↓reduceIte, go_sem, t0, t1, t7, t8]
          refine awp_rounds (fun (k : Nat) τ s' => s' = σ ∧ τ 0 = .str s ∧ τ 1 = .int .i64 p ∧ τ 7 = .int .i64 q ∧ τ 8 = .int .i64 e ∧ τ 11 = .int .i64 (q + k : Nat) ∧ k ≤ D.length ∧ τ 10 = .int .i64 (-(val (D.take k) : Int)) ∧ val (D.take k) ≤ 9223372036854775808) (fun k => D.length - k) 0 ?_ ?_
          · refine ⟨rfl, ?_, ?_, ?_, ?_, ?_, by omega, ?_, by simp [val]⟩ <;> simp only [go_sem, t0, t1, t7, t8] <;> rfl
          · rintro k τ s' ⟨rfl, t0, t1, t7, t8, t11, hk, t10, hv⟩
            simp -dsimp only [↓reduceIte, go_sem, t0, t1, t7, t8, t10, t11]
            refine boolW_split (fun h2 => ?_) (fun h2 => ?_)
            · have h2 : k < D.length := by simp at h2; omega
              obtain ⟨b, hb⟩ := get_lt h2
              have hbs := hDg k h2
              rw [hb] at hbs
              have hbd := hDd b (List.mem_iff_getElem?.2 ⟨k, hb⟩)
              have hval := val_take_succ hb
              simp -dsimp only [↓reduceIte, go_sem, t0, t1, t7, t8, t10, t11]
              refine nth_get hbs.symm ?_
              simp -dsimp only [↓reduceIte, go_sem, t0, t1, t7, t8, t10, t11]
              rw [show IntKind.i64.wrap (IntKind.i64.wrap (b.toNat : Int) - 48) = ((b.toNat - 48 : Nat) : Int) by rw [wrap_i64 (n := (b.toNat : Int)) (by omega) (by omega), wrap_i64 (by omega) (by omega)]; omega]
              have ht := tdiv10_neg (n := -9223372036854775808 + ((b.toNat - 48 : Nat) : Int)) (by omega)
              rw [show IntKind.i64.wrap (-9223372036854775808 + ((b.toNat - 48 : Nat) : Int)) = -9223372036854775808 + ((b.toNat - 48 : Nat) : Int) by rw [wrap_i64 (by omega) (by omega)], ht]
              rw [wrap_i64 (n := -(-(-9223372036854775808 + ((b.toNat - 48 : Nat) : Int)) / 10)) (by omega) (by omega)]
              refine boolW_split (fun h3 => ?_) (fun h3 => ?_)
              · have hm := val_mono (D := D) (k + 1)
                have h3 : most < val D := by simp at h3; rw [hval] at hm; clear hval ht; have : most ≤ 9223372036854775808 := by rw [hmost]; split <;> omega
                                             omega
                simp -dsimp only [↓reduceIte, go_sem, t0, t1, t7, t8, t10, t11]
                exact big h3 hno
              · have h3 : val (D.take (k + 1)) ≤ 9223372036854775808 := by simp at h3; rw [hval]; clear hval ht; omega
                simp -dsimp only [↓reduceIte, go_sem, t0, t1, t7, t8, t10, t11]
                refine later_intro ⟨k + 1, by omega, rfl, ?_, ?_, ?_, ?_, ?_, by omega, ?_, h3⟩ <;> simp only [go_sem, t0, t1, t7, t8, t10, t11]
                · rw [wrap_i64 (by omega) (by omega)]; congr 1
                · rw [wrap_i64 (n := -(val (D.take k) : Int) * 10) (by omega) (by omega), wrap_i64 (by omega) (by omega)]; congr 1; omega
            · have h2 : k = D.length := by simp at h2; omega
              subst h2
              rw [List.take_length] at t10 hv
              simp -dsimp only [↓reduceIte, go_sem, t0, t1, t7, t8, t10, t11]
              have he1 : IntKind.i64.wrap ((e : Int) + 1) = (e : Int) + 1 := wrap_i64 (by omega) (by omega)
              cases low with
              | true =>
                obtain ⟨hq1, hm1⟩ := hqp.1 rfl
                refine boolW_split (fun h3 => ?_) (fun h3 => ?_)
                · simp at h3; omega
                · simp -dsimp only [↓reduceIte, go_sem, t0, t1, t7, t8, t10, t11]
                  rw [he1]
                  have := fine (by omega) hno
                  exact this
              | false =>
                obtain ⟨hq1, hm1⟩ := hqp.2 rfl
                refine boolW_split (fun h3 => ?_) (fun h3 => ?_)
                · simp -dsimp only [↓reduceIte, go_sem, t0, t1, t7, t8, t10, t11]
                  refine boolW_split (fun h4 => ?_) (fun h4 => ?_)
                  · have h4 : most < val D := by simp at h4; omega
                    simp -dsimp only [↓reduceIte, go_sem, t0, t1, t7, t8, t10, t11]
                    exact big h4 hno
                  · have h4 : ¬ most < val D := by simp at h4; omega
                    simp -dsimp only [↓reduceIte, go_sem, t0, t1, t7, t8, t10, t11]
                    rw [he1, wrap_i64 (by omega) (by omega)]
                    have := fine h4 hno
                    rw [show (0 : Int) - -(val D : Int) = (val D : Int) by omega]
                    exact this
                · simp at h3; omega
        simp -dsimp only [↓reduceIte, go_sem, t0, t1, t7]
        refine guardV_split (fun h2 => ?_) (fun h2 => ?_) <;> (try rw [h2])
        · have h2 : p < q := by simp at h2; omega
          have hlow1 : low = true := by
            cases low with
            | true => rfl
            | false => have := (hqp.2 rfl).1; omega
          simp -dsimp only [↓reduceIte, go_sem, t0, t1, t7]
          refine side_later (by omega) ?_
          simp -dsimp only [↓reduceIte, go_sem, t0, t1, t7]
          refine side_later (by omega) ?_
          simp -dsimp only [↓reduceIte, go_sem, t0, t1, t7]
          refine ⟨by omega, by omega, later_intro ?_⟩
          simp -dsimp only [↓reduceIte, go_sem, t0, t1, t7]
          have heq2 : ((s.take e).drop q == [48]) = decide (e = q + 1 ∧ bAt s q = 48) := one_zero (by omega) (by omega)
          rw [heq2]
          refine boolW_split (fun h3 => ?_) (fun h3 => ?_)
          · have h3 : e = q + 1 ∧ bAt s q = 48 := by simpa using h3
            rw [if_pos ⟨hlow1, h3⟩] at hK
            simp -dsimp only [↓reduceIte, go_sem, t0, t1, t7]
            exact hK
          · have h3 : ¬ (e = q + 1 ∧ bAt s q = 48) := by simpa using h3
            simp -dsimp only [↓reduceIte, go_sem, t0, t1, t7]
            refine rest _ ?_ ?_ ?_ ?_ (fun h => h3 h.2) <;> simp only [go_sem, t0, t1, t7]
        · have h2 : ¬ p < q := by simp at h2; omega
          have hlow1 : low = false := by
            cases low with
            | false => rfl
            | true => have := (hqp.1 rfl).1; omega
          simp -dsimp only [↓reduceIte, go_sem, t0, t1, t7]
          refine rest _ ?_ ?_ ?_ ?_ (fun h => by rw [hlow1] at h; cases h.1) <;> simp only [go_sem, t0, t1, t7]
    -- where reading begins
    simp -dsimp only [↓reduceIte, go_sem, t0, t1]
    refine arr_intro fun _ => ?_
    simp -dsimp only [↓reduceIte, go_sem, t0, t1]
    refine guardV_split (fun h1 => ?_) (fun h1 => ?_) <;> (try rw [h1])
    · have h1 : p < s.length := by simp at h1; omega
      obtain ⟨b, hb⟩ := get_lt h1
      simp -dsimp only [↓reduceIte, go_sem, t0, t1]
      refine nth_get hb ?_
      simp -dsimp only [↓reduceIte, go_sem, t0, t1]
      refine boolW_split (fun h2 => ?_) (fun h2 => ?_)
      · have h2 : b.toNat = 45 := by simp at h2; omega
        have hl1 : low = true := by rw [← hlow, lowB, bAt_of hb]; simp [h1, h2]
        simp -dsimp only [↓reduceIte, go_sem, t0, t1]
        rw [wrap_i64 (by omega) (by omega)]
        refine tail _ (p + 1) _ (by rw [hl1]; rfl) rfl ?_ ?_ ?_ <;> simp only [go_sem, t0, t1]
        rfl
      · have h2 : ¬ b.toNat = 45 := by simp at h2; omega
        have hl1 : low = false := by rw [← hlow, lowB, bAt_of hb]; simp [h2]
        simp -dsimp only [↓reduceIte, go_sem, t0, t1]
        refine tail _ p _ (by rw [hl1]; rfl) rfl ?_ ?_ ?_ <;> simp only [go_sem, t0, t1]
    · have h1 : ¬ p < s.length := by simp at h1; omega
      have hl1 : low = false := by rw [← hlow, lowB]; simp [h1]
      simp -dsimp only [↓reduceIte, go_sem, t0, t1]
      refine tail _ p _ (by rw [hl1]; rfl) rfl ?_ ?_ ?_ <;> simp only [go_sem, t0, t1]
  have bad : i < 0 ∨ (s.length : Int) < i → K (tup3 (0, 0, 3)) σ := fun h => by
    rw [numR, if_pos h] at hK; exact hK
  simp -dsimp only [↓reduceIte, go_sem]
  refine guardV_split (fun h1 => ?_) (fun h1 => ?_) <;> (try rw [h1])
  · have h1 : ¬ i < 0 := by simpa using h1
    simp -dsimp only [↓reduceIte, go_sem]
    refine arr_intro fun _ => ?_
    simp -dsimp only [↓reduceIte, go_sem]
    refine boolW_split (fun h2 => ?_) (fun h2 => ?_)
    · have h2 : (s.length : Int) < i := by simpa using h2
      simp -dsimp only [↓reduceIte, go_sem]
      exact bad (.inr h2)
    · have h2 : ¬ (s.length : Int) < i := by simpa using h2
      simp -dsimp only [↓reduceIte, go_sem]
      refine go _ ?_ ?_ (by omega) <;> simp only [go_sem]
  · have h1 : i < 0 := by simpa using h1
    simp -dsimp only [↓reduceIte, go_sem]
    exact bad (.inl h1)
end Go.Aff.L01
