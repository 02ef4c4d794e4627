import Derived.Test.YtpafajjginndcaaG14
import Derived.Test.YtpafajjginndcaaG12

/- Layer 1, walked: the reference's numbers that are read. -/
namespace Go.Aff.L01
open Go.Proofs Go.Aff
set_option linter.unusedVariables false
set_option linter.unusedSimpArgs false
attribute [local go_sem] Try.underlying3 Try.underlying4 Try.underlying5 Try.underlying9 Try.underlying43 Try.underlying75 Try.underlying23

theorem val_mono {D : List UInt8} : ∀ (k : Nat), val (D.take k) ≤ val D := by
  intro k
  by_cases h : D.length ≤ k
  · rw [List.take_of_length_le h]; exact Nat.le_refl _
  · induction hn : D.length - k generalizing k with
    | zero => omega
    | succ n ih =>
      obtain ⟨b, hb⟩ := get_lt (l := D) (i := k) (by omega)
      have h1 := val_take_succ hb
      by_cases h2 : D.length ≤ k + 1
      · rw [List.take_of_length_le h2] at h1; omega
      · have := ih (k + 1) h2 (by omega); omega

theorem one_zero {s : List UInt8} {q e : Nat} (h1 : q < e) (h2 : e ≤ s.length) : ((s.take e).drop q == [48]) = decide (e = q + 1 ∧ bAt s q = 48) := by
  obtain ⟨b, hb⟩ := get_lt (l := s) (i := q) (by omega)
  have hd : s.drop q = b :: s.drop (q + 1) := by
    rw [List.drop_eq_getElem_cons (by omega)]; congr 1
    rw [List.getElem?_eq_getElem (by omega)] at hb; exact Option.some.inj hb
  rw [bAt_of hb, Bool.eq_iff_iff, beq_iff_eq, decide_eq_true_eq, List.drop_take, hd]
  constructor
  · intro h
    have hl := congrArg List.length h
    simp only [List.length_take, List.length_cons, List.length_drop, List.length_nil] at hl
    have e1 : e = q + 1 := by omega
    refine ⟨e1, ?_⟩
    rw [e1, show q + 1 - q = 1 by omega] at h
    simp at h; rw [h]; rfl
  · rintro ⟨rfl, h⟩
    rw [show q + 1 - q = 1 by omega]
    simp; exact UInt8.toNat_inj.1 h

theorem ReadNumber_c {s : List UInt8} {i : Int} (hi0 : -9223372036854775808 ≤ i) (hi1 : i ≤ 9223372036854775807) {σ : AST} {K : AV → AST → Prop}
    (hK : K (tup3 (numR s i)) σ) : TCalls Try.prog 16 [.str s, .int .i64 i] σ K := by
  refine tcalls_walk Try.f16 _ [.tmp 4, .tmp 5, .tmp 6] Try.func16 rfl rfl rfl mixed (Nat.le_of_ble_eq_true rfl) rfl fun hlen => ?_
  have hs : s.length ≤ 9223372036854775807 := hlen (.str s) (by simp)
  refine awp_seq_k fun KA hKA => ?_
  simp -dsimp only [↓reduceIte, go_sem]
  refine hKA _ _ (awp_seq_k fun KB hKB => ?_)
  have go : ∀ τ : Env, τ 0 = .str s → τ 1 = .int .i64 i → ¬ (i < 0 ∨ (s.length : Int) < i) → KB τ σ := by
    intro τ t0 t1 hok
    have hi : (i.toNat : Int) = i := by omega
    rw [numR, if_neg hok] at hK
    generalize hp : i.toNat = p at hi hK
    have hpl : p ≤ s.length := by omega
    rw [← hi] at t1
    refine hKB _ _ (awp_seq_k fun KC hKC => ?_)
    simp -dsimp only [↓reduceIte, go_sem, t0, t1]
    refine hKC _ _ (awp_seq_k fun KD hKD => ?_)
    rw [numP] at hK
    have hlp : lowB s p = true → p < s.length := fun h => by simp [lowB] at h; exact h.1
    generalize hlow : lowB s p = low at *
    have tail : ∀ (τ : Env) (q most : Nat), q = (if low then p + 1 else p) → most = (if low then 9223372036854775808 else 9223372036854775807) → τ 0 = .str s → τ 1 = .int .i64 p → τ 7 = .int .i64 q → KD τ σ := by
      intro τ q most hq hmost t0 t1 t7
      have hql : q ≤ s.length := by
        rw [hq]; split
        · rename_i h; have := hlp h; omega
        · exact hpl
      have hqp : (low = true → q = p + 1 ∧ most = 9223372036854775808) ∧ (low = false → q = p ∧ most = 9223372036854775807) := by rw [hq, hmost]; cases low <;> simp
      have hel := dend_le hql
      have heq : q ≤ dend s q := by unfold dend; omega
      rw [← hq, ← hmost, numT] at hK
      refine hKD _ _ (awp_seq_k fun KE hKE => ?_)
      simp -dsimp only [↓reduceIte, go_sem, t0, t1, t7]
      refine end_c hql ?_
      simp -dsimp only [↓reduceIte, go_sem, t0, t1, t7]
      refine hKE _ _ (awp_seq_k fun KF hKF => ?_)
      simp -dsimp only [↓reduceIte, go_sem, t0, t1, t7]
      refine bad_c (last := 59) heq hel ?_
      simp -dsimp only [↓reduceIte, go_sem, t0, t1, t7]
      refine hKF _ _ (awp_seq_k fun KG hKG => ?_)
      generalize hsh : shapeS s q (dend s q) 59 = sh at *
      simp -dsimp only [↓reduceIte, go_sem, t0, t1, t7]
      refine boolW_split (fun h1 => ?_) (fun h1 => ?_)
      · have h1 : sh ≠ 0 := by simpa using h1
        rw [if_pos h1] at hK
        simp -dsimp only [↓reduceIte, go_sem, t0, t1, t7]
        exact hK
      · have h1 : sh = 0 := by simpa using h1
        rw [if_neg (by simp [h1])] at hK
        rw [h1] at hsh
        have hlt := shape_ok hsh hel
        have hee : dend s q = q + (digs s q).length := rfl
        have hDg : ∀ k, k < (digs s q).length → (digs s q)[k]? = s[q + k]? := fun k hk => digs_get hk
        have hDd : ∀ b ∈ digs s q, 48 ≤ b.toNat ∧ b.toNat ≤ 57 := fun b hb => by have := digs_isD b hb; simpa [isD] using this
        generalize hD : digs s q = D at *
        generalize hE : dend s q = e at *
        have big : most < val D → ¬ (low = true ∧ e = q + 1 ∧ bAt s q = 48) → K (tup3 (0, 0, 4)) σ := fun h h2 => by
          rw [if_neg h2, if_pos h] at hK; exact hK
        have fine : ¬ most < val D → ¬ (low = true ∧ e = q + 1 ∧ bAt s q = 48) → K (tup3 (if low then -(val D : Int) else (val D : Int), (e : Int) + 1, 0)) σ := fun h h2 => by
          rw [if_neg h2, if_neg h] at hK; exact hK
        simp -dsimp only [↓reduceIte, go_sem, t0, t1, t7]
        refine hKG _ _ (awp_seq_k fun KH hKH => ?_)
        have rest : ∀ τ : Env, τ 0 = .str s → τ 1 = .int .i64 p → τ 7 = .int .i64 q → τ 8 = .int .i64 e → ¬ (low = true ∧ e = q + 1 ∧ bAt s q = 48) → KH τ σ := by
          intro τ t0 t1 t7 t8 hno
          refine hKH _ _ ?_
          simp -dsimp only [↓reduceIte, go_sem, t0, t1, t7, t8]
          refine awp_rounds (fun (k : Nat) τ s' => s' = σ ∧ τ 0 = .str s ∧ τ 1 = .int .i64 p ∧ τ 7 = .int .i64 q ∧ τ 8 = .int .i64 e ∧ τ 11 = .int .i64 (q + k : Nat) ∧ k ≤ D.length ∧ τ 10 = .int .i64 (-(val (D.take k) : Int)) ∧ val (D.take k) ≤ 9223372036854775808) (fun k => D.length - k) 0 ?_ ?_
          · refine ⟨rfl, ?_, ?_, ?_, ?_, ?_, by omega, ?_, by simp [val]⟩ <;> simp only [go_sem, t0, t1, t7, t8] <;> rfl
          · rintro k τ s' ⟨rfl, t0, t1, t7, t8, t11, hk, t10, hv⟩
            simp -dsimp only [↓reduceIte, go_sem, t0, t1, t7, t8, t10, t11]
            refine boolW_split (fun h2 => ?_) (fun h2 => ?_)
            · have h2 : k < D.length := by simp at h2; omega
              obtain ⟨b, hb⟩ := get_lt h2
              have hbs := hDg k h2
              rw [hb] at hbs
              have hbd := hDd b (List.mem_iff_getElem?.2 ⟨k, hb⟩)
              have hval := val_take_succ hb
              simp -dsimp only [↓reduceIte, go_sem, t0, t1, t7, t8, t10, t11]
              refine nth_get hbs.symm ?_
              simp -dsimp only [↓reduceIte, go_sem, t0, t1, t7, t8, t10, t11]
              rw [show IntKind.i64.wrap (IntKind.i64.wrap (b.toNat : Int) - 48) = ((b.toNat - 48 : Nat) : Int) by rw [wrap_i64 (n := (b.toNat : Int)) (by omega) (by omega), wrap_i64 (by omega) (by omega)]; omega]
              have ht := tdiv10_neg (n := -9223372036854775808 + ((b.toNat - 48 : Nat) : Int)) (by omega)
              rw [show IntKind.i64.wrap (-9223372036854775808 + ((b.toNat - 48 : Nat) : Int)) = -9223372036854775808 + ((b.toNat - 48 : Nat) : Int) by rw [wrap_i64 (by omega) (by omega)], ht]
              rw [wrap_i64 (n := -(-(-9223372036854775808 + ((b.toNat - 48 : Nat) : Int)) / 10)) (by omega) (by omega)]
              refine boolW_split (fun h3 => ?_) (fun h3 => ?_)
              · have hm := val_mono (D := D) (k + 1)
                have h3 : most < val D := by simp at h3; rw [hval] at hm; clear hval ht; have : most ≤ 9223372036854775808 := by rw [hmost]; split <;> omega
                                             omega
                simp -dsimp only [↓reduceIte, go_sem, t0, t1, t7, t8, t10, t11]
                exact big h3 hno
              · have h3 : val (D.take (k + 1)) ≤ 9223372036854775808 := by simp at h3; rw [hval]; clear hval ht; omega
                simp -dsimp only [↓reduceIte, go_sem, t0, t1, t7, t8, t10, t11]
                refine later_intro ⟨k + 1, by omega, rfl, ?_, ?_, ?_, ?_, ?_, by omega, ?_, h3⟩ <;> simp only [go_sem, t0, t1, t7, t8, t10, t11]
                · rw [wrap_i64 (by omega) (by omega)]; congr 1
                · rw [wrap_i64 (n := -(val (D.take k) : Int) * 10) (by omega) (by omega), wrap_i64 (by omega) (by omega)]; congr 1; omega
            · have h2 : k = D.length := by simp at h2; omega
              subst h2
              rw [List.take_length] at t10 hv
              simp -dsimp only [↓reduceIte, go_sem, t0, t1, t7, t8, t10, t11]
              have he1 : IntKind.i64.wrap ((e : Int) + 1) = (e : Int) + 1 := wrap_i64 (by omega) (by omega)
              cases low with
              | true =>
                obtain ⟨hq1, hm1⟩ := hqp.1 rfl
                refine boolW_split (fun h3 => ?_) (fun h3 => ?_)
                · simp at h3; omega
                · simp -dsimp only [↓reduceIte, go_sem, t0, t1, t7, t8, t10, t11]
                  rw [he1]
                  have := fine (by omega) hno
                  exact this
              | false =>
                obtain ⟨hq1, hm1⟩ := hqp.2 rfl
                refine boolW_split (fun h3 => ?_) (fun h3 => ?_)
                · simp -dsimp only [↓reduceIte, go_sem, t0, t1, t7, t8, t10, t11]
                  refine boolW_split (fun h4 => ?_) (fun h4 => ?_)
                  · have h4 : most < val D := by simp at h4; omega
                    simp -dsimp only [↓reduceIte, go_sem, t0, t1, t7, t8, t10, t11]
                    exact big h4 hno
                  · have h4 : ¬ most < val D := by simp at h4; omega
                    simp -dsimp only [↓reduceIte, go_sem, t0, t1, t7, t8, t10, t11]
                    rw [he1, wrap_i64 (by omega) (by omega)]
                    have := fine h4 hno
                    rw [show (0 : Int) - -(val D : Int) = (val D : Int) by omega]
                    exact this
                · simp at h3; omega
        simp -dsimp only [↓reduceIte, go_sem, t0, t1, t7]
        refine guardV_split (fun h2 => ?_) (fun h2 => ?_) <;> (try rw [h2])
        · have h2 : p < q := by simp at h2; omega
          have hlow1 : low = true := by
            cases low with
            | true => rfl
            | false => have := (hqp.2 rfl).1; omega
          simp -dsimp only [↓reduceIte, go_sem, t0, t1, t7]
          refine side_later (by omega) ?_
          simp -dsimp only [↓reduceIte, go_sem, t0, t1, t7]
          refine side_later (by omega) ?_
          simp -dsimp only [↓reduceIte, go_sem, t0, t1, t7]
          refine ⟨by omega, by omega, later_intro ?_⟩
          simp -dsimp only [↓reduceIte, go_sem, t0, t1, t7]
          have heq2 : ((s.take e).drop q == [48]) = decide (e = q + 1 ∧ bAt s q = 48) := one_zero (by omega) (by omega)
          rw [heq2]
          refine boolW_split (fun h3 => ?_) (fun h3 => ?_)
          · have h3 : e = q + 1 ∧ bAt s q = 48 := by simpa using h3
            rw [if_pos ⟨hlow1, h3⟩] at hK
            simp -dsimp only [↓reduceIte, go_sem, t0, t1, t7]
            exact hK
          · have h3 : ¬ (e = q + 1 ∧ bAt s q = 48) := by simpa using h3
            simp -dsimp only [↓reduceIte, go_sem, t0, t1, t7]
            refine rest _ ?_ ?_ ?_ ?_ (fun h => h3 h.2) <;> simp only [go_sem, t0, t1, t7]
        · have h2 : ¬ p < q := by simp at h2; omega
          have hlow1 : low = false := by
            cases low with
            | false => rfl
            | true => have := (hqp.1 rfl).1; omega
          simp -dsimp only [↓reduceIte, go_sem, t0, t1, t7]
          refine rest _ ?_ ?_ ?_ ?_ (fun h => by rw [hlow1] at h; cases h.1) <;> simp only [go_sem, t0, t1, t7]
    -- where reading begins
    simp -dsimp only [↓reduceIte, go_sem, t0, t1]
    refine arr_intro fun _ => ?_
    simp -dsimp only [↓reduceIte, go_sem, t0, t1]
    refine guardV_split (fun h1 => ?_) (fun h1 => ?_) <;> (try rw [h1])
    · have h1 : p < s.length := by simp at h1; omega
      obtain ⟨b, hb⟩ := get_lt h1
      simp -dsimp only [↓reduceIte, go_sem, t0, t1]
      refine nth_get hb ?_
      simp -dsimp only [↓reduceIte, go_sem, t0, t1]
      refine boolW_split (fun h2 => ?_) (fun h2 => ?_)
      · have h2 : b.toNat = 45 := by simp at h2; omega
        have hl1 : low = true := by rw [← hlow, lowB, bAt_of hb]; simp [h1, h2]
        simp -dsimp only [↓reduceIte, go_sem, t0, t1]
        rw [wrap_i64 (by omega) (by omega)]
        refine tail _ (p + 1) _ (by rw [hl1]; rfl) rfl ?_ ?_ ?_ <;> simp only [go_sem, t0, t1]
        rfl
      · have h2 : ¬ b.toNat = 45 := by simp at h2; omega
        have hl1 : low = false := by rw [← hlow, lowB, bAt_of hb]; simp [h2]
        simp -dsimp only [↓reduceIte, go_sem, t0, t1]
        refine tail _ p _ (by rw [hl1]; rfl) rfl ?_ ?_ ?_ <;> simp only [go_sem, t0, t1]
    · have h1 : ¬ p < s.length := by simp at h1; omega
      have hl1 : low = false := by rw [← hlow, lowB]; simp [h1]
      simp -dsimp only [↓reduceIte, go_sem, t0, t1]
      refine tail _ p _ (by rw [hl1]; rfl) rfl ?_ ?_ ?_ <;> simp only [go_sem, t0, t1]
  have bad : i < 0 ∨ (s.length : Int) < i → K (tup3 (0, 0, 3)) σ := fun h => by
    rw [numR, if_pos h] at hK; exact hK
  simp -dsimp only [↓reduceIte, go_sem]
  refine guardV_split (fun h1 => ?_) (fun h1 => ?_) <;> (try rw [h1])
  · have h1 : ¬ i < 0 := by simpa using h1
    simp -dsimp only [↓reduceIte, go_sem]
    refine arr_intro fun _ => ?_
    simp -dsimp only [↓reduceIte, go_sem]
    refine boolW_split (fun h2 => ?_) (fun h2 => ?_)
    · have h2 : (s.length : Int) < i := by simpa using h2
      simp -dsimp only [↓reduceIte, go_sem]
      exact bad (.inr h2)
    · have h2 : ¬ (s.length : Int) < i := by simpa using h2
      simp -dsimp only [↓reduceIte, go_sem]
      refine go _ ?_ ?_ (by omega) <;> simp only [go_sem]
  · have h1 : i < 0 := by simpa using h1
    simp -dsimp only [↓reduceIte, go_sem]
    exact bad (.inl h1)
end Go.Aff.L01

/- Layer 1, walked: a text that is read. -/
namespace Go.Aff.L01
open Go.Proofs Go.Aff
set_option linter.unusedVariables false
set_option linter.unusedSimpArgs false
attribute [local go_sem] Try.underlying3 Try.underlying4 Try.underlying5 Try.underlying9 Try.underlying43 Try.underlying75 Try.underlying23

/-- What reading a text comes to. -/
def textP (s : List UInt8) (p : Nat) : List UInt8 × Int × Int :=
  if shapeS s p (dend s p) 58 ≠ 0 then ([], 0, shapeS s p (dend s p) 58) else
  if 16384 < val (digs s p) then ([], 0, 4) else
  if s.length < dend s p + 1 + val (digs s p) then ([], 0, 5) else
  ((s.take (dend s p + 1 + val (digs s p))).drop (dend s p + 1), ((dend s p + 1 + val (digs s p) : Nat) : Int), 0)
def textR (s : List UInt8) (i : Int) : List UInt8 × Int × Int := if i < 0 ∨ (s.length : Int) < i then ([], 0, 3) else textP s i.toNat
def tupT (x : List UInt8 × Int × Int) : AV := .tuple [.str x.1, .int .i64 x.2.1, .int .i64 x.2.2]

theorem readText_c {s : List UInt8} {i : Int} (hi0 : -9223372036854775808 ≤ i) (hi1 : i ≤ 9223372036854775807) {σ : AST} {K : AV → AST → Prop}
    (hK : K (tupT (textR s i)) σ) : TCalls Try.prog 58 [.str s, .int .i64 i] σ K := by
  refine tcalls_walk Try.f58 _ [.tmp 4, .tmp 5, .tmp 6] Try.func58 rfl rfl rfl mixed (Nat.le_of_ble_eq_true rfl) rfl fun hlen => ?_
  have hs : s.length ≤ 9223372036854775807 := hlen (.str s) (by simp)
  refine awp_seq_k fun KA hKA => ?_
  simp -dsimp only [↓reduceIte, go_sem]
  refine hKA _ _ (awp_seq_k fun KB hKB => ?_)
  have go : ∀ τ : Env, τ 0 = .str s → τ 1 = .int .i64 i → ¬ (i < 0 ∨ (s.length : Int) < i) → KB τ σ := by
    intro τ t0 t1 hok
    have hi : (i.toNat : Int) = i := by omega
    rw [textR, if_neg hok] at hK
    generalize hp : i.toNat = p at hi hK
    have hpl : p ≤ s.length := by omega
    rw [← hi] at t1
    have hel := dend_le hpl
    have heq : p ≤ dend s p := by unfold dend; omega
    rw [textP] at hK
    refine hKB _ _ ?_
    simp -dsimp only [↓reduceIte, go_sem, t0, t1]
    refine run_c (most := 16384) hpl (by omega) (by omega) ?_
    simp -dsimp only [↓reduceIte, go_sem, t0, t1]
    refine shape_c (last := 58) heq hel ?_
    generalize hval : val (digs s p) = v at *
    generalize hee : dend s p = e at *
    generalize hsh : shapeS s p e 58 = sh at *
    simp -dsimp only [↓reduceIte, go_sem, t0, t1]
    refine boolW_split (fun h1 => ?_) (fun h1 => ?_)
    · have h1 : sh ≠ 0 := by simp at h1; exact h1
      rw [if_pos h1] at hK
      simp -dsimp only [↓reduceIte, go_sem, t0, t1]
      exact hK
    · have h1 : sh = 0 := by simp at h1; exact h1
      rw [if_neg (by simp [h1])] at hK
      rw [h1] at hsh
      have hlt := shape_ok hsh hel
      simp -dsimp only [↓reduceIte, go_sem, t0, t1]
      refine boolW_split (fun h2 => ?_) (fun h2 => ?_)
      · have h2 : 16384 < v := by simp at h2; omega
        rw [if_pos h2] at hK
        simp -dsimp only [↓reduceIte, go_sem, t0, t1]
        exact hK
      · have h2 : ¬ 16384 < v := by simp at h2; omega
        rw [if_neg h2] at hK
        have hmod : v % 18446744073709551616 = v := by omega
        have hw : IntKind.i64.wrap ((v : Nat) : Int) = (v : Int) := wrap_i64 (by omega) (by omega)
        have he1 : IntKind.i64.wrap ((e : Int) + 1) = ((e + 1 : Nat) : Int) := by rw [wrap_i64 (by omega) (by omega)]; omega
        simp -dsimp only [↓reduceIte, go_sem, t0, t1]
        refine arr_intro fun _ => ?_
        simp -dsimp only [↓reduceIte, go_sem, t0, t1]
        rw [hmod, hw, he1, wrap_i64 (n := (s.length : Int) - _) (by omega) (by omega)]
        refine boolW_split (fun h3 => ?_) (fun h3 => ?_)
        · have h3 : s.length < e + 1 + v := by simp at h3; omega
          rw [if_pos h3] at hK
          simp -dsimp only [↓reduceIte, go_sem, t0, t1]
          exact hK
        · have h3 : ¬ s.length < e + 1 + v := by simp at h3; omega
          rw [if_neg h3] at hK
          simp -dsimp only [↓reduceIte, go_sem, t0, t1]
          refine side_later (by omega) ?_
          have hfin : IntKind.i64.wrap (((e + 1 : Nat) : Int) + (v : Int)) = ((e + 1 + v : Nat) : Int) := by rw [wrap_i64 (by omega) (by omega)]; omega
          rw [hw, hfin]
          simp -dsimp only [↓reduceIte, go_sem, t0, t1]
          refine side_later (by omega) ?_
          simp -dsimp only [↓reduceIte, go_sem, t0, t1]
          refine ⟨by omega, by omega, later_intro ?_⟩
          simp -dsimp only [↓reduceIte, go_sem, t0, t1]
          rw [hw, hfin]
          exact hK
  have bad : i < 0 ∨ (s.length : Int) < i → K (tupT ([], 0, 3)) σ := fun h => by
    rw [textR, if_pos h] at hK; exact hK
  simp -dsimp only [↓reduceIte, go_sem]
  refine guardV_split (fun h1 => ?_) (fun h1 => ?_) <;> (try rw [h1])
  · have h1 : ¬ i < 0 := by simpa using h1
    simp -dsimp only [↓reduceIte, go_sem]
    refine arr_intro fun _ => ?_
    simp -dsimp only [↓reduceIte, go_sem]
    refine boolW_split (fun h2 => ?_) (fun h2 => ?_)
    · have h2 : (s.length : Int) < i := by simpa using h2
      simp -dsimp only [↓reduceIte, go_sem]
      exact bad (.inr h2)
    · have h2 : ¬ (s.length : Int) < i := by simpa using h2
      simp -dsimp only [↓reduceIte, go_sem]
      refine go _ ?_ ?_ (by omega) <;> simp only [go_sem]
  · have h1 : i < 0 := by simpa using h1
    simp -dsimp only [↓reduceIte, go_sem]
    exact bad (.inl h1)
end Go.Aff.L01

/- Layer 1, walked: the reference's texts that are read; how a list begins. -/
namespace Go.Aff.L01
open Go.Proofs Go.Aff
set_option linter.unusedVariables false
set_option linter.unusedSimpArgs false
attribute [local go_sem] Try.underlying3 Try.underlying4 Try.underlying5 Try.underlying9 Try.underlying43 Try.underlying75 Try.underlying23

theorem ReadText_c {s : List UInt8} {i : Int} (hi0 : -9223372036854775808 ≤ i) (hi1 : i ≤ 9223372036854775807) {σ : AST} {K : AV → AST → Prop}
    (hK : K (tupT (textR s i)) σ) : TCalls Try.prog 60 [.str s, .int .i64 i] σ K := by
  refine tcalls_walk Try.f60 _ [.tmp 4, .tmp 5, .tmp 6] Try.func60 rfl rfl rfl mixed (Nat.le_of_ble_eq_true rfl) rfl fun hlen => ?_
  have hs : s.length ≤ 9223372036854775807 := hlen (.str s) (by simp)
  refine awp_seq_k fun KA hKA => ?_
  simp -dsimp only [↓reduceIte, go_sem]
  refine hKA _ _ (awp_seq_k fun KB hKB => ?_)
  have go : ∀ τ : Env, τ 0 = .str s → τ 1 = .int .i64 i → ¬ (i < 0 ∨ (s.length : Int) < i) → KB τ σ := by
    intro τ t0 t1 hok
    have hi : (i.toNat : Int) = i := by omega
    rw [textR, if_neg hok] at hK
    generalize hp : i.toNat = q at hi hK
    have hql : q ≤ s.length := by omega
    rw [← hi] at t1
    have hel := dend_le hql
    have heq : q ≤ dend s q := by unfold dend; omega
    rw [textP] at hK
    refine hKB _ _ ?_
    simp -dsimp only [↓reduceIte, go_sem, t0, t1]
    refine end_c hql ?_
    simp -dsimp only [↓reduceIte, go_sem, t0, t1]
    refine bad_c (last := 58) heq hel ?_
    generalize hsh : shapeS s q (dend s q) 58 = sh at *
    simp -dsimp only [↓reduceIte, go_sem, t0, t1]
    refine boolW_split (fun h1 => ?_) (fun h1 => ?_)
    · have h1 : sh ≠ 0 := by simpa using h1
      rw [if_pos h1] at hK
      simp -dsimp only [↓reduceIte, go_sem, t0, t1]
      exact hK
    · have h1 : sh = 0 := by simpa using h1
      rw [if_neg (by simp [h1])] at hK
      rw [h1] at hsh
      have hlt := shape_ok hsh hel
      have hee : dend s q = q + (digs s q).length := rfl
      have hDg : ∀ k, k < (digs s q).length → (digs s q)[k]? = s[q + k]? := fun k hk => digs_get hk
      have hDd : ∀ b ∈ digs s q, 48 ≤ b.toNat ∧ b.toNat ≤ 57 := fun b hb => by have := digs_isD b hb; simpa [isD] using this
      generalize hD : digs s q = D at *
      generalize hE : dend s q = e at *
      simp -dsimp only [↓reduceIte, go_sem, t0, t1]
      refine awp_rounds (fun (k : Nat) τ s' => s' = σ ∧ τ 0 = .str s ∧ τ 7 = .int .i64 e ∧ τ 10 = .int .i64 (q + k : Nat) ∧ k ≤ D.length ∧ τ 9 = .int .i64 (val (D.take k) : Nat) ∧ val (D.take k) ≤ 16384) (fun k => D.length - k) 0 ?_ ?_
      · refine ⟨rfl, ?_, ?_, ?_, by omega, ?_, by simp [val]⟩ <;> simp only [go_sem, t0, t1] <;> rfl
      · rintro k τ s' ⟨rfl, t0, t7, t10, hk, t9, hv⟩
        simp -dsimp only [↓reduceIte, go_sem, t0, t7, t9, t10]
        refine boolW_split (fun h2 => ?_) (fun h2 => ?_)
        · have h2 : k < D.length := by simp at h2; omega
          obtain ⟨b, hb⟩ := get_lt h2
          have hbs := hDg k h2
          rw [hb] at hbs
          have hbd := hDd b (List.mem_iff_getElem?.2 ⟨k, hb⟩)
          have hval := val_take_succ hb
          simp -dsimp only [↓reduceIte, go_sem, t0, t7, t9, t10]
          refine nth_get hbs.symm ?_
          simp -dsimp only [↓reduceIte, go_sem, t0, t7, t9, t10]
          have hn : IntKind.i64.wrap (IntKind.i64.wrap (IntKind.i64.wrap ((val (D.take k) : Nat) * 10 : Int) + IntKind.i64.wrap (b.toNat : Int)) - 48) = ((val (D.take (k + 1)) : Nat) : Int) := by
            rw [wrap_i64 (n := (b.toNat : Int)) (by omega) (by omega), wrap_i64 (n := ((val (D.take k) : Nat) * 10 : Int)) (by omega) (by omega), wrap_i64 (n := ((val (D.take k) : Nat) * 10 : Int) + _) (by omega) (by omega), wrap_i64 (by omega) (by omega), hval]; omega
          rw [hn]
          refine boolW_split (fun h3 => ?_) (fun h3 => ?_)
          · have hm := val_mono (D := D) (k + 1)
            have h3 : 16384 < val D := by simp at h3; omega
            rw [if_pos h3] at hK
            simp -dsimp only [↓reduceIte, go_sem, t0, t7, t9, t10]
            exact hK
          · have h3 : val (D.take (k + 1)) ≤ 16384 := by simp at h3; omega
            simp -dsimp only [↓reduceIte, go_sem, t0, t7, t9, t10]
            refine later_intro ⟨k + 1, by omega, rfl, ?_, ?_, ?_, by omega, ?_, h3⟩ <;> simp only [go_sem, t0, t7, t9, t10]
            rw [wrap_i64 (by omega) (by omega)]; congr 1
        · have h2 : k = D.length := by simp at h2; omega
          subst h2
          rw [List.take_length] at t9 hv
          rw [if_neg (by omega)] at hK
          simp -dsimp only [↓reduceIte, go_sem, t0, t7, t9, t10]
          refine arr_intro fun _ => ?_
          simp -dsimp only [↓reduceIte, go_sem, t0, t7, t9, t10]
          rw [wrap_i64 (n := (s.length : Int) - _) (by omega) (by omega), wrap_i64 (by omega) (by omega)]
          have he1 : IntKind.i64.wrap ((e : Int) + 1) = ((e + 1 : Nat) : Int) := by rw [wrap_i64 (by omega) (by omega)]; omega
          refine boolW_split (fun h3 => ?_) (fun h3 => ?_)
          · have h3 : s.length < e + 1 + val D := by simp at h3; omega
            rw [if_pos h3] at hK
            simp -dsimp only [↓reduceIte, go_sem, t0, t7, t9, t10]
            exact hK
          · have h3 : ¬ s.length < e + 1 + val D := by simp at h3; omega
            rw [if_neg h3] at hK
            have hfin : IntKind.i64.wrap (((e + 1 : Nat) : Int) + (val D : Int)) = ((e + 1 + val D : Nat) : Int) := by rw [wrap_i64 (by omega) (by omega)]; omega
            simp -dsimp only [↓reduceIte, go_sem, t0, t7, t9, t10]
            rw [he1]
            refine side_later (by omega) ?_
            simp -dsimp only [↓reduceIte, go_sem, t0, t7, t9, t10]
            rw [hfin]
            refine side_later (by omega) ?_
            simp -dsimp only [↓reduceIte, go_sem, t0, t7, t9, t10]
            refine ⟨by omega, by omega, later_intro ?_⟩
            simp -dsimp only [↓reduceIte, go_sem, t0, t7, t9, t10]
            rw [he1, hfin]
            exact hK
  have bad : i < 0 ∨ (s.length : Int) < i → K (tupT ([], 0, 3)) σ := fun h => by
    rw [textR, if_pos h] at hK; exact hK
  simp -dsimp only [↓reduceIte, go_sem]
  refine guardV_split (fun h1 => ?_) (fun h1 => ?_) <;> (try rw [h1])
  · have h1 : ¬ i < 0 := by simpa using h1
    simp -dsimp only [↓reduceIte, go_sem]
    refine arr_intro fun _ => ?_
    simp -dsimp only [↓reduceIte, go_sem]
    refine boolW_split (fun h2 => ?_) (fun h2 => ?_)
    · have h2 : (s.length : Int) < i := by simpa using h2
      simp -dsimp only [↓reduceIte, go_sem]
      exact bad (.inr h2)
    · have h2 : ¬ (s.length : Int) < i := by simpa using h2
      simp -dsimp only [↓reduceIte, go_sem]
      refine go _ ?_ ?_ (by omega) <;> simp only [go_sem]
  · have h1 : i < 0 := by simpa using h1
    simp -dsimp only [↓reduceIte, go_sem]
    exact bad (.inl h1)
end Go.Aff.L01

/- Walking: variables in memory, structs. -/
namespace Go.Aff
set_option linter.unusedVariables false
set_option linter.unusedSimpArgs false

variable {P : Program} {σ σ' : AST} {K : AV → AST → Prop} {KV : AV → Prop} {KS : AST → Prop}

/-- What a place of memory holds. -/
def objCell (o : AObj) (p : List Nat) : Option AV := match o with
  | .cells v => v.at p
  | _ => none
def cellAt (σ : AST) (j : Nat) (p : List Nat) : Option AV := (σ.objs[j]?).bind fun o => objCell o p

theorem cellAt_new {o : AObj} {p : List Nat} : cellAt (σ.push o) σ.objs.length p = objCell o p := by simp [cellAt, AST.push]
theorem cellAt_old {o : AObj} {j : Nat} {p : List Nat} (h : j < σ.objs.length) : cellAt (σ.push o) j p = cellAt σ j p := by simp [cellAt, AST.push, List.getElem?_append_left h]
theorem cellAt_tok {n es j : Nat} {p : List Nat} : cellAt (σ.tok n es) j p = cellAt σ j p := nr rfl
theorem cellAt_setTok {t n es j : Nat} {p : List Nat} : cellAt (σ.setTok t n es) j p = cellAt σ j p := nr rfl
theorem cellAt_growS {tk : Tk} {n es j : Nat} {p : List Nat} : cellAt (growS σ tk n es) j p = cellAt σ j p := by cases tk <;> rfl
theorem objCell_cells {v : AV} {p : List Nat} : objCell (.cells v) p = v.at p := nr rfl
theorem at_agg {ps : List AV} {i : Nat} {p : List Nat} : (AV.agg ps).at (i :: p) = (ps[i]?).bind fun v => v.at p := nr rfl
theorem length_push {o : AObj} : (σ.push o).objs.length = σ.objs.length + 1 := by simp [AST.push]
theorem length_tok {n es : Nat} : (σ.tok n es).objs.length = σ.objs.length := nr rfl
theorem length_setTok {t n es : Nat} : (σ.setTok t n es).objs.length = σ.objs.length := nr rfl
theorem length_growS {tk : Tk} {n es : Nat} : (growS σ tk n es).objs.length = σ.objs.length := by cases tk <;> rfl
theorem length_set {i : Nat} {o : AObj} : (σ.set i o).objs.length = σ.objs.length := by simp [AST.set]

def loadC (P : Program) (t : TypeId) (x : Option AV) (K : AV → Prop) : Prop := match x with
  | some x => fits P t x ∧ K x
  | none => False
theorem load_ptr {t : TypeId} {j : Nat} {p : List Nat} : loadW P σ t (.ptr (some (j, p))) KV = loadC P t (cellAt σ j p) KV := by
  simp only [loadW, cellAt]
  cases h : σ.objs[j]? with
  | none => simp [loadC]
  | some o =>
    cases o with
    | cells v => simp only [Option.bind_some, objCell, loadC]; cases v.at p <;> rfl
    | _ => simp [objCell, loadC]
theorem loadC_some {t : TypeId} {x : AV} : loadC P t (some x) KV = (fits P t x ∧ @Later ⟨KV x⟩) := nr rfl

def fieldAddrC (P : Program) (t : TypeId) (x : Option AV) (j : Nat) (p : List Nat) (i : Nat) (K : AV → Prop) : Prop := match x with
  | some (.agg ps) => match ps[i]? with
    | some x => partIs P t ps i x ∧ 0 < x.size ∧ K (.ptr (some (j, p ++ [i])))
    | none => False
  | _ => False
def fieldAddrP (P : Program) (t : TypeId) (ps : List AV) (x : Option AV) (j : Nat) (p : List Nat) (i : Nat) (K : AV → Prop) : Prop := match x with
  | some x => partIs P t ps i x ∧ 0 < x.size ∧ K (.ptr (some (j, p ++ [i])))
  | none => False
theorem fieldAddr_ptr {t : TypeId} {j i : Nat} {p : List Nat} : fieldAddrW P σ t (.ptr (some (j, p))) i KV = fieldAddrC P t (cellAt σ j p) j p i KV := by
  simp only [fieldAddrW, cellAt]
  cases h : σ.objs[j]? with
  | none => simp [fieldAddrC]
  | some o =>
    cases o with
    | cells v => simp only [Option.bind_some, objCell, fieldAddrC]; cases v.at p <;> rfl
    | _ => simp [objCell, fieldAddrC]
theorem fieldAddrC_agg {t : TypeId} {ps : List AV} {j i : Nat} {p : List Nat} : fieldAddrC P t (some (.agg ps)) j p i KV = fieldAddrP P t ps ps[i]? j p i KV := nr rfl
theorem fieldAddrP_some {t : TypeId} {ps : List AV} {x : AV} {j i : Nat} {p : List Nat} : fieldAddrP P t ps (some x) j p i KV = ((partIs P t ps i x ∧ 0 < x.size) ∧ @Later ⟨KV (.ptr (some (j, p ++ [i])))⟩) := by
  simp [fieldAddrP, Later, and_assoc]
def fieldAddrE (P : Program) (t : TypeId) (ps : List AV) (x : Option AV) (i : Nat) (K : AV → Prop) : Prop := match x with
  | some x => partIs P t ps i x ∧ 0 < x.size ∧ K (.eptr x)
  | none => False
theorem fieldAddr_eptr {t : TypeId} {ps : List AV} {i : Nat} : fieldAddrW P σ t (.eptr (.agg ps)) i KV = fieldAddrE P t ps ps[i]? i KV := nr rfl
theorem fieldAddrE_some {t : TypeId} {ps : List AV} {x : AV} {i : Nat} : fieldAddrE P t ps (some x) i KV = ((partIs P t ps i x ∧ 0 < x.size) ∧ @Later ⟨KV (.eptr x)⟩) := by
  simp [fieldAddrE, Later, and_assoc]
def fieldE (P : Program) (t : TypeId) (ps : List AV) (x : Option AV) (i : Nat) (K : AV → Prop) : Prop := match x with
  | some x => partIs P t ps i x ∧ K x
  | none => False
theorem field_agg {t : TypeId} {ps : List AV} {i : Nat} : fieldW P t (.agg ps) i KV = fieldE P t ps ps[i]? i KV := nr rfl
theorem fieldE_some {t : TypeId} {ps : List AV} {x : AV} {i : Nat} : fieldE P t ps (some x) i KV = (partIs P t ps i x ∧ @Later ⟨KV x⟩) := nr rfl

theorem partIs_of {t : TypeId} {i o : Nat} {T : TypeId} (h : placeOf P t i = some (o, T)) {ps : List AV} {x : AV} : partIs P t ps i x = (o = AV.sizes (ps.take i) ∧ fits P T x) := by
  simp only [partIs, h, Option.some.injEq, Prod.mk.injEq, eq_iff_iff]
  constructor
  · rintro ⟨_, ⟨h1, rfl⟩, h2⟩; exact ⟨h1, h2⟩
  · rintro ⟨h1, h2⟩; exact ⟨T, ⟨h1, rfl⟩, h2⟩

attribute [go_sem] cellAt_new cellAt_tok cellAt_setTok cellAt_growS objCell_cells at_nil at_agg length_push length_tok length_setTok length_growS length_set load_ptr loadC_some fieldAddr_ptr fieldAddrC_agg fieldAddrP_some
attribute [go_sem] fieldAddr_eptr fieldAddrE_some field_agg fieldE_some Option.bind_some List.take_zero List.take_succ_cons Nat.reduceEqDiff Nat.zero_add Nat.zero_lt_one and_self List.map_cons List.map_nil List.append_nil
end Go.Aff

