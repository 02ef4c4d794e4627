import Derived.Test.YtpafajjginndcaaG13

/- Layer 1, walked: a number that is read. -/
namespace Go.Aff.L01
open Go.Proofs Go.Aff
set_option linter.unusedVariables false
set_option linter.unusedSimpArgs false
attribute [local go_sem] Try.underlying3 Try.underlying4 Try.underlying5 Try.underlying9 Try.underlying43 Try.underlying75 Try.underlying23

theorem shape_c {s : List UInt8} {p e last : Nat} (hp : p ≤ e) (he : e ≤ s.length) {σ : AST} {K : AV → AST → Prop} (hK : K (.int .i64 (shapeS s p e last)) σ) : TCalls Try.prog 54 [.str s, .int .i64 p, .int .i64 e, .int .u8 last] σ K := by
  refine tcalls_walk Try.f54 _ [.tmp 8] Try.func54 rfl rfl rfl mixed (Nat.le_of_ble_eq_true rfl) rfl fun hlen => ?_
  have hs : s.length ≤ 9223372036854775807 := hlen (.str s) (by simp)
  unfold shapeS at hK
  simp -dsimp only [↓reduceIte, go_sem]
  refine arr_intro fun _ => ?_
  simp -dsimp only [↓reduceIte, go_sem]
  refine boolW_split (fun hb => ?_) (fun hb => ?_)
  · have hb : e = s.length := by simp at hb; omega
    rw [if_pos hb] at hK
    simp -dsimp only [↓reduceIte, go_sem]
    exact hK
  · have hb : ¬ e = s.length := by simp at hb; omega
    rw [if_neg hb] at hK
    obtain ⟨be, hbe⟩ := get_lt (l := s) (i := e) (by omega)
    rw [bAt_of hbe] at hK
    simp -dsimp only [↓reduceIte, go_sem]
    refine guardV_split (fun h1 => ?_) (fun h1 => ?_) <;> (try rw [h1])
    · have h1 : ¬ e = p := by simp at h1; omega
      obtain ⟨bp, hbp⟩ := get_lt (l := s) (i := p) (by omega)
      rw [bAt_of hbp] at hK
      simp -dsimp only [↓reduceIte, go_sem]
      refine nth_get hbe ?_
      simp -dsimp only [↓reduceIte, go_sem]
      refine guardV_split (fun h2 => ?_) (fun h2 => ?_) <;> (try rw [h2])
      · have h2 : be.toNat = last := by simp at h2; omega
        simp -dsimp only [↓reduceIte, go_sem]
        rw [wrap_i64 (by omega) (by omega)]
        refine guardV_split (fun h3 => ?_) (fun h3 => ?_) <;> (try rw [h3])
        · have h3 : 1 < e - p := by simp at h3; omega
          simp -dsimp only [↓reduceIte, go_sem]
          refine nth_get hbp ?_
          simp -dsimp only [↓reduceIte, go_sem]
          refine boolW_split (fun h4 => ?_) (fun h4 => ?_)
          · have h4 : bp.toNat = 48 := by simp at h4; omega
            rw [if_pos (.inr (.inr ⟨h3, h4⟩))] at hK
            simp -dsimp only [↓reduceIte, go_sem]
            exact hK
          · have h4 : ¬ bp.toNat = 48 := by simp at h4; omega
            rw [if_neg (by omega)] at hK
            simp -dsimp only [↓reduceIte, go_sem]
            exact hK
        · have h3 : ¬ 1 < e - p := by simp at h3; omega
          rw [if_neg (by omega)] at hK
          simp -dsimp only [↓reduceIte, go_sem]
          exact hK
      · have h2 : ¬ be.toNat = last := by simp at h2; omega
        rw [if_pos (.inr (.inl h2))] at hK
        simp -dsimp only [↓reduceIte, go_sem]
        exact hK
    · have h1 : e = p := by simp at h1; omega
      rw [if_pos (.inl h1)] at hK
      simp -dsimp only [↓reduceIte, go_sem]
      exact hK

theorem shape_ok {s : List UInt8} {p e last : Nat} (h : shapeS s p e last = 0) (he : e ≤ s.length) : e < s.length ∧ e ≠ p := by
  unfold shapeS at h
  split at h
  · cases h
  · split at h
    · cases h
    · omega

theorem readNumber_c {s : List UInt8} {i : Int} (hi0 : -9223372036854775808 ≤ i) (hi1 : i ≤ 9223372036854775807) {σ : AST} {K : AV → AST → Prop}
    (hK : K (tup3 (numR s i)) σ) : TCalls Try.prog 30 [.str s, .int .i64 i] σ K := by
  refine tcalls_walk Try.f30 _ [.tmp 4, .tmp 5, .tmp 6] Try.func30 rfl rfl rfl mixed (Nat.le_of_ble_eq_true rfl) rfl fun hlen => ?_
  have hs : s.length ≤ 9223372036854775807 := hlen (.str s) (by simp)
  refine awp_seq_k fun KA hKA => ?_
  simp -dsimp only [↓reduceIte, go_sem]
  refine hKA _ _ (awp_seq_k fun KB hKB => ?_)
  have go : ∀ τ : Env, τ 0 = .str s → τ 1 = .int .i64 i → ¬ (i < 0 ∨ (s.length : Int) < i) → KB τ σ := by
    intro τ t0 t1 hok
    have hi : (i.toNat : Int) = i := by omega
    rw [numR, if_neg hok] at hK
    generalize hp : i.toNat = p at hi hK
    have hpl : p ≤ s.length := by omega
    rw [← hi] at t1
    refine hKB _ _ (awp_seq_k fun KC hKC => ?_)
    simp -dsimp only [↓reduceIte, go_sem, t0, t1]
    refine hKC _ _ (awp_seq_k fun KD hKD => ?_)
    rw [numP] at hK
    have tail : ∀ τ : Env, τ 0 = .str s → τ 1 = .int .i64 p → τ 7 = .int .u64 9223372036854775807 → τ 8 = .bool (lowB s p) → KD τ σ := by
      intro τ t0 t1 t7 t8
      refine hKD _ _ (awp_seq_k fun KE hKE => ?_)
      have hlp : lowB s p = true → p < s.length := fun h => by simp [lowB] at h; exact h.1
      generalize hlow : lowB s p = low at *
      have tail2 : ∀ (τ : Env) (q most : Nat), q = (if low then p + 1 else p) → most = (if low then 9223372036854775808 else 9223372036854775807) → τ 0 = .str s → τ 1 = .int .i64 q → τ 7 = .int .u64 most → τ 8 = .bool low → KE τ σ := by
        intro τ q most hq hmost t0 t1 t7 t8
        have hql : q ≤ s.length := by
          rw [hq]; split
          · rename_i h; have := hlp h; omega
          · exact hpl
        have hm1 : 9 ≤ most ∧ most ≤ 9223372036854775808 ∧ (low = false → most ≤ 9223372036854775807) := by rw [hmost]; cases low <;> simp
        have hel := dend_le hql
        have heq : q ≤ dend s q := by unfold dend; omega
        rw [← hq, ← hmost, numT] at hK
        refine hKE _ _ ?_
        simp -dsimp only [↓reduceIte, go_sem, t0, t1, t7, t8]
        refine run_c hql hm1.1 (by omega) ?_
        simp -dsimp only [↓reduceIte, go_sem, t0, t1, t7, t8]
        refine shape_c (last := 59) heq hel ?_
        generalize hval : val (digs s q) = v at *
        generalize hee : dend s q = e at *
        generalize hsh : shapeS s q e 59 = sh at *
        simp -dsimp only [↓reduceIte, go_sem, t0, t1, t7, t8]
        refine boolW_split (fun h1 => ?_) (fun h1 => ?_)
        · have h1 : sh ≠ 0 := by simp at h1; exact h1
          rw [if_pos h1] at hK
          simp -dsimp only [↓reduceIte, go_sem, t0, t1, t7, t8]
          exact hK
        · have h1 : sh = 0 := by simp at h1; exact h1
          rw [if_neg (by simp [h1])] at hK
          rw [h1] at hsh
          have hlt := shape_ok hsh hel
          obtain ⟨bq, hbq⟩ := get_lt (l := s) (i := q) (by omega)
          have hbq' := bAt_of hbq
          have big : ¬ v ≤ most → ¬ (low = true ∧ e = q + 1 ∧ bAt s q = 48) → K (tup3 (0, 0, 4)) σ := fun h h2 => by
            rw [if_neg h2, if_pos (by omega)] at hK; exact hK
          have fine : v ≤ most → ¬ (low = true ∧ e = q + 1 ∧ bAt s q = 48) → K (tup3 (if low then -(v : Int) else (v : Int), (e : Int) + 1, 0)) σ := fun h h2 => by
            rw [if_neg h2, if_neg (by omega)] at hK; exact hK
          cases low with
          | false =>
            simp -dsimp only [↓reduceIte, go_sem, t0, t1, t7, t8]
            refine boolW_split (fun h2 => ?_) (fun h2 => ?_)
            · have h2 : ¬ v ≤ most := by simp at h2; omega
              simp -dsimp only [↓reduceIte, go_sem, t0, t1, t7, t8]
              exact big h2 (by simp)
            · have h2 : v ≤ most := by simp at h2; omega
              have := hm1.2.2 rfl
              simp -dsimp only [↓reduceIte, go_sem, t0, t1, t7, t8]
              have h3 := fine h2 (by simp)
              rw [wrap_i64 (by omega) (by omega), wrap_i64 (by omega) (by omega)]
              rw [show v % 18446744073709551616 = v by omega]
              exact h3
          | true =>
            simp -dsimp only [↓reduceIte, go_sem, t0, t1, t7, t8]
            rw [wrap_i64 (by omega) (by omega)]
            refine guardV_split (fun h2 => ?_) (fun h2 => ?_) <;> (try rw [h2])
            · have h2 : e = q + 1 := by simp at h2; omega
              simp -dsimp only [↓reduceIte, go_sem, t0, t1, t7, t8]
              refine nth_get hbq ?_
              simp -dsimp only [↓reduceIte, go_sem, t0, t1, t7, t8]
              refine boolW_split (fun h3 => ?_) (fun h3 => ?_)
              · have h3 : bq.toNat = 48 := by simp at h3; omega
                rw [if_pos ⟨rfl, h2, by rw [hbq']; exact h3⟩] at hK
                simp -dsimp only [↓reduceIte, go_sem, t0, t1, t7, t8]
                exact hK
              · have h3 : ¬ bq.toNat = 48 := by simp at h3; omega
                have hno : ¬ (true = true ∧ e = q + 1 ∧ bAt s q = 48) := by rw [hbq']; simp [h3]
                simp -dsimp only [↓reduceIte, go_sem, t0, t1, t7, t8]
                refine boolW_split (fun h4 => ?_) (fun h4 => ?_)
                · have h4 : ¬ v ≤ most := by simp at h4; omega
                  simp -dsimp only [↓reduceIte, go_sem, t0, t1, t7, t8]
                  exact big h4 hno
                · have h4 : v ≤ most := by simp at h4; omega
                  simp -dsimp only [↓reduceIte, go_sem, t0, t1, t7, t8]
                  have h5 := fine h4 hno
                  rw [wrap_i64 (n := (e : Int) + 1) (by omega) (by omega)]
                  rw [show IntKind.i64.wrap (IntKind.u64.wrap (0 - ((v % 18446744073709551616 : Nat) : Int))) = -(v : Int) by rw [IntKind.wrap_i64, IntKind.wrap_u64]; omega]
                  exact h5
            · have h2 : ¬ e = q + 1 := by simp at h2; omega
              have hno : ¬ (true = true ∧ e = q + 1 ∧ bAt s q = 48) := by simp [h2]
              simp -dsimp only [↓reduceIte, go_sem, t0, t1, t7, t8]
              refine boolW_split (fun h4 => ?_) (fun h4 => ?_)
              · have h4 : ¬ v ≤ most := by simp at h4; omega
                simp -dsimp only [↓reduceIte, go_sem, t0, t1, t7, t8]
                exact big h4 hno
              · have h4 : v ≤ most := by simp at h4; omega
                simp -dsimp only [↓reduceIte, go_sem, t0, t1, t7, t8]
                have h5 := fine h4 hno
                rw [wrap_i64 (n := (e : Int) + 1) (by omega) (by omega)]
                rw [show IntKind.i64.wrap (IntKind.u64.wrap (0 - ((v % 18446744073709551616 : Nat) : Int))) = -(v : Int) by rw [IntKind.wrap_i64, IntKind.wrap_u64]; omega]
                exact h5
      simp -dsimp only [↓reduceIte, go_sem, t0, t1, t7, t8]
      cases low with
      | false =>
        simp -dsimp only [↓reduceIte, go_sem, t0, t1, t7, t8]
        refine tail2 _ p _ rfl rfl ?_ ?_ ?_ ?_ <;> simp only [go_sem, t0, t1, t7, t8]
        rfl
      | true =>
        have := hlp rfl
        simp -dsimp only [↓reduceIte, go_sem, t0, t1, t7, t8]
        rw [wrap_i64 (by omega) (by omega), wrap_u64 (by omega) (by omega)]
        refine tail2 _ (p + 1) _ rfl rfl ?_ ?_ ?_ ?_ <;> simp only [go_sem, t0, t1, t7, t8]
        · rfl
        · rfl
    simp -dsimp only [↓reduceIte, go_sem, t0, t1]
    refine arr_intro fun _ => ?_
    simp -dsimp only [↓reduceIte, go_sem, t0, t1]
    refine guardV_split (fun h1 => ?_) (fun h1 => ?_) <;> (try rw [h1])
    · have h1 : p < s.length := by simp at h1; omega
      obtain ⟨b, hb⟩ := get_lt h1
      simp -dsimp only [↓reduceIte, go_sem, t0, t1]
      refine nth_get hb ?_
      simp -dsimp only [↓reduceIte, go_sem, t0, t1]
      refine tail _ ?_ ?_ ?_ ?_ <;> simp only [go_sem, t0, t1]
      congr 1
      rw [lowB, bAt_of hb, Bool.eq_iff_iff]
      simp [h1]
      omega
    · have h1 : ¬ p < s.length := by simp at h1; omega
      simp -dsimp only [↓reduceIte, go_sem, t0, t1]
      refine tail _ ?_ ?_ ?_ ?_ <;> simp only [go_sem, t0, t1]
      simp [lowB, h1]
  have bad : i < 0 ∨ (s.length : Int) < i → K (tup3 (0, 0, 3)) σ := fun h => by
    rw [numR, if_pos h] at hK; exact hK
  simp -dsimp only [↓reduceIte, go_sem]
  refine guardV_split (fun h1 => ?_) (fun h1 => ?_) <;> (try rw [h1])
  · have h1 : ¬ i < 0 := by simpa using h1
    simp -dsimp only [↓reduceIte, go_sem]
    refine arr_intro fun _ => ?_
    simp -dsimp only [↓reduceIte, go_sem]
    refine boolW_split (fun h2 => ?_) (fun h2 => ?_)
    · have h2 : (s.length : Int) < i := by simpa using h2
      simp -dsimp only [↓reduceIte, go_sem]
      exact bad (.inr h2)
    · have h2 : ¬ (s.length : Int) < i := by simpa using h2
      simp -dsimp only [↓reduceIte, go_sem]
      refine go _ ?_ ?_ (by omega) <;> simp only [go_sem]
  · have h1 : i < 0 := by simpa using h1
    simp -dsimp only [↓reduceIte, go_sem]
    exact bad (.inl h1)
end Go.Aff.L01

/- Layer 1, walked: awake; LayNumbers. -/
namespace Go.Aff.L01
open Go.Proofs Go.Aff
set_option linter.unusedVariables false
set_option linter.unusedSimpArgs false
attribute [local go_sem] Try.underlying3 Try.underlying4 Try.underlying5 Try.underlying9 Try.underlying43 Try.underlying75 Try.underlying23 Try.underlying44 Try.underlying29 fits3 fits9

theorem num_m40 : numS (-40) = [45, 52, 48, 59] := by
  unfold numS; rw [show (-40 : Int).natAbs = 40 from rfl, dg_big (by decide), dg_small (by decide)]; rfl
theorem num_1 : numS 1 = [49, 59] := by
  unfold numS; rw [show (1 : Int).natAbs = 1 from rfl, dg_small (by decide)]; rfl
theorem num_2 : numS 2 = [50, 59] := by
  unfold numS; rw [show (2 : Int).natAbs = 2 from rfl, dg_small (by decide)]; rfl
theorem rd_1 : numR [120, 45, 52, 48, 59] 1 = (-40, 5, 0) := by decide +kernel
theorem rd_2 : numR [48, 49, 59] 0 = (0, 0, 6) := by decide +kernel

end Go.Aff.L01

/- Layer 1, walked: the reference's lists that are laid; LayLays. -/
namespace Go.Aff.L01
open Go.Proofs Go.Aff
set_option linter.unusedVariables false
set_option linter.unusedSimpArgs false
attribute [local go_sem] Try.underlying3 Try.underlying4 Try.underlying5 Try.underlying9 Try.underlying43 Try.underlying75 Try.underlying23 Try.underlying44 Try.underlying29 fits3 fits9

end Go.Aff.L01

/- Layer 1, walked: the reference's reading: where digits end, what is wrong. -/
namespace Go.Aff.L01
open Go.Proofs Go.Aff
set_option linter.unusedVariables false
set_option linter.unusedSimpArgs false
attribute [local go_sem] Try.underlying3 Try.underlying4 Try.underlying5 Try.underlying9 Try.underlying43 Try.underlying75 Try.underlying23

theorem end_c {s : List UInt8} {p : Nat} (hp : p ≤ s.length) {σ : AST} {K : AV → AST → Prop} (hK : K (.int .i64 (dend s p : Nat)) σ) : TCalls Try.prog 31 [.str s, .int .i64 p] σ K := by
  refine tcalls_walk Try.f31 _ [.tmp 4] Try.func31 rfl rfl rfl mixed (Nat.le_of_ble_eq_true rfl) rfl fun hlen => ?_
  have hs : s.length ≤ 9223372036854775807 := hlen (.str s) (by simp)
  have hde := dend_le hp
  have hdd : dend s p = p + (digs s p).length := rfl
  generalize hD : digs s p = D at *
  generalize hE : dend s p = E at *
  simp -dsimp only [↓reduceIte, go_sem]
  refine awp_rounds (fun (k : Nat) τ s' => s' = σ ∧ τ 0 = .str s ∧ τ 1 = .int .i64 (p + k : Nat) ∧ k ≤ D.length) (fun k => D.length - k) 0 ?_ ?_
  · refine ⟨rfl, ?_, ?_, by omega⟩ <;> simp only [go_sem] <;> rfl
  · rintro k τ s' ⟨rfl, h0, h1, hk⟩
    have hat := digs_at (s := s) (p := p) (k := k) (by rw [hD]; exact hk)
    rw [hD] at hat
    have fin : k = D.length → K (.int .i64 (p + k : Nat)) s' := by
      intro e; subst e; rw [hdd] at hK; exact hK
    have hfin0 : s.length ≤ p + k → k = D.length := fun h => by
      have : ¬ k < D.length := fun hlt => by
        obtain ⟨b, hb, _⟩ := hat.1 hlt
        have := (List.getElem?_eq_some_iff.1 hb).1; omega
      omega
    have hfin1 : ∀ b, s[p + k]? = some b → ¬ (48 ≤ b.toNat ∧ b.toNat ≤ 57) → k = D.length := fun b hb hn => by
      have : ¬ k < D.length := fun hlt => by
        obtain ⟨b', hb', hd⟩ := hat.1 hlt
        rw [hb] at hb'; cases hb'
        simp [isD] at hd; exact hn hd
      omega
    simp -dsimp only [↓reduceIte, go_sem, h0, h1]
    refine arr_intro fun _ => ?_
    simp -dsimp only [↓reduceIte, go_sem, h0, h1]
    refine guardV_split (fun hb => ?_) (fun hb => ?_) <;> (try rw [hb])
    · obtain ⟨b, hbi⟩ := get_lt (l := s) (i := p + k) (by simp at hb; omega)
      simp -dsimp only [↓reduceIte, go_sem, h0, h1]
      refine nth_get hbi ?_
      simp -dsimp only [↓reduceIte, go_sem, h0, h1]
      refine guardV_split (fun hb1 => ?_) (fun hb1 => ?_) <;> (try rw [hb1])
      · simp -dsimp only [↓reduceIte, go_sem, h0, h1]
        refine nth_get hbi ?_
        simp -dsimp only [↓reduceIte, go_sem, h0, h1]
        refine boolW_split (fun hb2 => ?_) (fun hb2 => ?_)
        · simp at hb1 hb2
          have hlt : k < D.length := hat.2 ⟨b, hbi, by simp [isD]; omega⟩
          have hpk : IntKind.i64.wrap (((p + k : Nat) : Int) + 1) = ((p + (k + 1) : Nat) : Int) := by rw [wrap_i64 (by omega) (by omega)]; omega
          simp -dsimp only [↓reduceIte, go_sem, h0, h1]
          refine later_intro ⟨k + 1, by omega, rfl, ?_, ?_, by omega⟩ <;> simp only [go_sem, h0, h1]
          rw [hpk]
        · simp -dsimp only [↓reduceIte, go_sem, h0, h1]
          exact fin (hfin1 b hbi (by simp at hb2; omega))
      · simp -dsimp only [↓reduceIte, go_sem, h0, h1]
        exact fin (hfin1 b hbi (by simp at hb1; omega))
    · simp -dsimp only [↓reduceIte, go_sem, h0, h1]
      exact fin (hfin0 (by simp at hb; omega))

theorem bad_c {s : List UInt8} {p e last : Nat} (hp : p ≤ e) (he : e ≤ s.length) {σ : AST} {K : AV → AST → Prop} (hK : K (.int .i64 (shapeS s p e last)) σ) : TCalls Try.prog 32 [.str s, .int .i64 p, .int .i64 e, .int .u8 last] σ K := by
  refine tcalls_walk Try.f32 _ [.tmp 8] Try.func32 rfl rfl rfl mixed (Nat.le_of_ble_eq_true rfl) rfl fun hlen => ?_
  have hs : s.length ≤ 9223372036854775807 := hlen (.str s) (by simp)
  unfold shapeS at hK
  simp -dsimp only [↓reduceIte, go_sem]
  refine arr_intro fun _ => ?_
  simp -dsimp only [↓reduceIte, go_sem]
  refine boolW_split (fun hb => ?_) (fun hb => ?_)
  · have hb : e = s.length := by simp at hb; omega
    rw [if_pos hb] at hK
    simp -dsimp only [↓reduceIte, go_sem]
    exact hK
  · have hb : ¬ e = s.length := by simp at hb; omega
    rw [if_neg hb] at hK
    obtain ⟨be, hbe⟩ := get_lt (l := s) (i := e) (by omega)
    rw [bAt_of hbe] at hK
    simp -dsimp only [↓reduceIte, go_sem]
    refine guardV_split (fun h1 => ?_) (fun h1 => ?_) <;> (try rw [h1])
    · have h1 : ¬ e = p := by simp at h1; omega
      obtain ⟨bp, hbp⟩ := get_lt (l := s) (i := p) (by omega)
      rw [bAt_of hbp] at hK
      simp -dsimp only [↓reduceIte, go_sem]
      refine nth_get hbe ?_
      simp -dsimp only [↓reduceIte, go_sem]
      refine boolW_split (fun h2 => ?_) (fun h2 => ?_)
      · have h2 : ¬ be.toNat = last := by simp at h2; omega
        rw [if_pos (.inr (.inl h2))] at hK
        simp -dsimp only [↓reduceIte, go_sem]
        exact hK
      · have h2 : be.toNat = last := by simp at h2; omega
        simp -dsimp only [↓reduceIte, go_sem]
        rw [wrap_i64 (by omega) (by omega)]
        refine guardV_split (fun h3 => ?_) (fun h3 => ?_) <;> (try rw [h3])
        · have h3 : 1 < e - p := by simp at h3; omega
          simp -dsimp only [↓reduceIte, go_sem]
          refine nth_get hbp ?_
          simp -dsimp only [↓reduceIte, go_sem]
          refine boolW_split (fun h4 => ?_) (fun h4 => ?_)
          · have h4 : bp.toNat = 48 := by simp at h4; omega
            rw [if_pos (.inr (.inr ⟨h3, h4⟩))] at hK
            simp -dsimp only [↓reduceIte, go_sem]
            exact hK
          · have h4 : ¬ bp.toNat = 48 := by simp at h4; omega
            rw [if_neg (by omega)] at hK
            simp -dsimp only [↓reduceIte, go_sem]
            exact hK
        · have h3 : ¬ 1 < e - p := by simp at h3; omega
          rw [if_neg (by omega)] at hK
          simp -dsimp only [↓reduceIte, go_sem]
          exact hK
    · have h1 : e = p := by simp at h1; omega
      rw [if_pos (.inl h1)] at hK
      simp -dsimp only [↓reduceIte, go_sem]
      exact hK
end Go.Aff.L01

/- Layer 1: no laid thing begins another one. Plain. -/
namespace Go.Aff.L01
open Go.Aff
set_option linter.unusedSimpArgs false

theorem toNat_ofNat {n : Nat} (h : n < 256) : (UInt8.ofNat n).toNat = n := by simp [UInt8.toNat_ofNat']; omega

theorem dg_isD : ∀ (n : Nat), ∀ b ∈ dg n, isD b = true := by
  intro n
  induction n using Nat.strongRecOn with
  | ind n ih =>
  intro b hb
  by_cases h : n < 10
  · rw [dg_small h] at hb; simp at hb; subst hb
    simp only [isD, toNat_ofNat (show 48 + n < 256 by omega)]; simp; omega
  · rw [dg_big h] at hb
    rcases List.mem_append.1 hb with hb | hb
    · exact ih (n / 10) (by omega) b hb
    · simp at hb; subst hb
      have := toNat_ofNat (show 48 + n % 10 < 256 by omega)
      simp only [isD, this]; simp; omega

theorem val_dg : ∀ (n : Nat), val (dg n) = n := by
  intro n
  induction n using Nat.strongRecOn with
  | ind n ih =>
  by_cases h : n < 10
  · rw [dg_small h]
    have := toNat_ofNat (show 48 + n < 256 by omega)
    simp only [val, List.foldl_cons, List.foldl_nil, this]; omega
  · rw [dg_big h, val_snoc, ih (n / 10) (by omega), toNat_ofNat (by omega)]; omega

theorem dg_inj {n m : Nat} (h : dg n = dg m) : n = m := by rw [← val_dg n, ← val_dg m, h]
theorem dg_ne {n : Nat} : dg n ≠ [] := by
  by_cases h : n < 10
  · rw [dg_small h]; simp
  · rw [dg_big h]; simp

/-- Two that both end at the first such byte: one begins the other one only if they are the same; what follows is compared in turn. -/
theorem stop_prefix {c : UInt8} : ∀ {l m x y : List UInt8}, c ∉ l → c ∉ m → (l ++ c :: x) <+: (m ++ c :: y) → l = m ∧ x <+: y
  | [], [], x, y, _, _, h => by simpa using h
  | [], b :: m, x, y, _, hm, h => by
    simp only [List.nil_append, List.cons_append, List.cons_prefix_cons] at h
    exact absurd (by simp [h.1]) hm
  | a :: l, [], x, y, hl, _, h => by
    simp only [List.nil_append, List.cons_append, List.cons_prefix_cons] at h
    exact absurd (by simp [h.1]) hl
  | a :: l, b :: m, x, y, hl, hm, h => by
    simp only [List.cons_append, List.cons_prefix_cons] at h
    obtain ⟨h1, h2⟩ := stop_prefix (fun hh => hl (by simp [hh])) (fun hh => hm (by simp [hh])) h.2
    exact ⟨by rw [h.1, h1], h2⟩

theorem not_in_dg {c : UInt8} {n : Nat} (h : isD c = false) : c ∉ dg n := fun hc => by
  have := dg_isD n c hc; rw [h] at this; cases this

theorem numS_apart {a b : Int} (hab : a ≠ b) : ¬ numS a <+: numS b := by
  intro h
  have key : ∀ n : Int, (59 : UInt8) ∉ (if n < 0 then [45] else []) ++ dg n.natAbs := by
    intro n hc
    rcases List.mem_append.1 hc with hc | hc
    · split at hc <;> simp at hc
    · exact not_in_dg (by decide) hc
  unfold numS at h
  obtain ⟨h1, _⟩ := stop_prefix (c := 59) (key a) (key b) h
  apply hab
  have n45 : ∀ n : Nat, (45 : UInt8) ∉ dg n := fun n => not_in_dg (by decide)
  by_cases ha : a < 0
  · by_cases hb : b < 0
    · simp only [if_pos ha, if_pos hb, List.cons_append, List.nil_append, List.cons.injEq, true_and] at h1
      have := dg_inj h1; omega
    · simp only [if_pos ha, if_neg hb, List.cons_append, List.nil_append] at h1
      exact absurd (by rw [← h1]; simp) (n45 b.natAbs)
  · by_cases hb : b < 0
    · simp only [if_neg ha, if_pos hb, List.cons_append, List.nil_append] at h1
      exact absurd (by rw [h1]; simp) (n45 a.natAbs)
    · simp only [if_neg ha, if_neg hb, List.nil_append] at h1
      have := dg_inj h1; omega

end Go.Aff.L01

/- Layer 1: what was laid is read as it was. Plain. -/
namespace Go.Aff.L01
open Go.Aff
set_option linter.unusedSimpArgs false
set_option linter.unusedVariables false

theorem digs_laid {x y : List UInt8} {c : UInt8} (n : Nat) (hc : isD c = false) : digs (x ++ (dg n ++ c :: y)) x.length = dg n := by
  unfold digs
  rw [List.drop_left, List.takeWhile_append_of_pos (dg_isD n)]
  rw [List.takeWhile_cons_of_neg (by simp [hc])]; simp
theorem dend_laid {x y : List UInt8} {c : UInt8} (n : Nat) (hc : isD c = false) : dend (x ++ (dg n ++ c :: y)) x.length = x.length + (dg n).length := by
  unfold dend; rw [digs_laid n hc]
theorem bAt_left {x y : List UInt8} {c : UInt8} : bAt (x ++ c :: y) x.length = c.toNat := by simp [bAt]
theorem bAt_end {x l y : List UInt8} {c : UInt8} : bAt (x ++ (l ++ c :: y)) (x.length + l.length) = c.toNat := by
  rw [← List.append_assoc, ← List.length_append]; exact bAt_left

theorem dg_head : ∀ (n : Nat), 0 < n → ∃ b r, dg n = b :: r ∧ b.toNat ≠ 48 := by
  intro n
  induction n using Nat.strongRecOn with
  | ind n ih =>
  intro hn
  by_cases h : n < 10
  · rw [dg_small h]
    exact ⟨_, [], rfl, by rw [toNat_ofNat (by omega)]; omega⟩
  · obtain ⟨b, r, hb, h48⟩ := ih (n / 10) (by omega) (by omega)
    rw [dg_big h, hb]
    exact ⟨b, _, rfl, h48⟩
theorem dg_zero : dg 0 = [48] := by rw [dg_small (by decide)]; rfl

theorem shape_laid {x y : List UInt8} {c : UInt8} (n : Nat) (hc : isD c = false) : shapeS (x ++ (dg n ++ c :: y)) x.length (x.length + (dg n).length) c.toNat = 0 := by
  have hne : 0 < (dg n).length := List.length_pos_iff.2 dg_ne
  unfold shapeS
  rw [if_neg (by simp), if_neg]
  rintro (h | h | ⟨h1, h2⟩)
  · omega
  · exact h bAt_end
  · by_cases hn : n = 0
    · subst hn; rw [dg_zero] at h1; simp at h1
    · obtain ⟨b, r, hb, h48⟩ := dg_head n (by omega)
      rw [hb, List.cons_append, bAt_left] at h2
      exact h48 h2

theorem num_back {x y : List UInt8} {n : Int} (h0 : -9223372036854775808 ≤ n) (h1 : n ≤ 9223372036854775807) : numP (x ++ (numS n ++ y)) x.length = (n, ((x.length + (numS n).length : Nat) : Int), 0) := by
  have c59 : isD 59 = false := by decide
  by_cases hn : n < 0
  · have e : x ++ (numS n ++ y) = (x ++ [45]) ++ (dg n.natAbs ++ 59 :: y) := by simp [numS, hn]
    have hl : (x ++ [(45 : UInt8)]).length = x.length + 1 := by simp
    have low : lowB (x ++ (numS n ++ y)) x.length = true := by
      rw [lowB, show x ++ (numS n ++ y) = x ++ 45 :: (dg n.natAbs ++ 59 :: y) by simp [numS, hn], bAt_left]; simp
    have hd := dend_laid (x := x ++ [45]) (y := y) (c := 59) n.natAbs c59
    have hg := digs_laid (x := x ++ [45]) (y := y) (c := 59) n.natAbs c59
    have hsh := shape_laid (x := x ++ [45]) (y := y) (c := 59) n.natAbs c59
    rw [numP, low]
    simp only [if_true]
    rw [numT, e]
    rw [hl] at hd hg hsh
    rw [hd, hg, val_dg]
    rw [show (59 : UInt8).toNat = 59 from rfl] at hsh
    rw [if_neg (not_not_intro hsh)]
    obtain ⟨b, r, hb, h48⟩ := dg_head n.natAbs (by omega)
    have hbq : bAt ((x ++ [45]) ++ (dg n.natAbs ++ 59 :: y)) (x.length + 1) ≠ 48 := by
      rw [hb, ← hl, List.cons_append, bAt_left]; exact h48
    rw [if_neg (fun h => hbq h.2.2), if_neg (by omega)]
    simp only [if_true, numS, if_pos hn, List.length_append, List.length_cons, List.length_nil, Prod.mk.injEq]
    exact ⟨by omega, by omega, trivial⟩
  · have e : x ++ (numS n ++ y) = x ++ (dg n.natAbs ++ 59 :: y) := by simp [numS, hn]
    have low : lowB (x ++ (numS n ++ y)) x.length = false := by
      obtain ⟨b, r, hb⟩ := List.exists_cons_of_ne_nil (dg_ne (n := n.natAbs))
      have hbd := dg_isD n.natAbs b (by rw [hb]; simp)
      rw [lowB, e, hb, List.cons_append, bAt_left]
      simp [isD] at hbd
      simp; omega
    have hd := dend_laid (x := x) (y := y) (c := 59) n.natAbs c59
    have hg := digs_laid (x := x) (y := y) (c := 59) n.natAbs c59
    have hsh := shape_laid (x := x) (y := y) (c := 59) n.natAbs c59
    rw [numP, low]
    simp only [Bool.false_eq_true, if_false]
    rw [numT, e, hd, hg, val_dg]
    rw [show (59 : UInt8).toNat = 59 from rfl] at hsh
    rw [if_neg (not_not_intro hsh), if_neg (by simp), if_neg (by omega)]
    simp only [Bool.false_eq_true, if_false, numS, if_neg hn, List.length_append, List.length_cons, List.length_nil, Prod.mk.injEq]
    exact ⟨by omega, by omega, trivial⟩

end Go.Aff.L01

/- Layer 1: what is read is laid as the very bytes. Plain. -/
namespace Go.Aff.L01
open Go.Aff
set_option linter.unusedSimpArgs false
set_option linter.unusedVariables false

theorem ofNat_digit {b : UInt8} (h : isD b = true) : UInt8.ofNat (48 + (b.toNat - 48)) = b := by
  simp [isD] at h
  rw [show 48 + (b.toNat - 48) = b.toNat by omega]
  simp

/-- Digits without a zero ahead are the digits of what they say. -/
theorem dg_val_rev : ∀ (r : List UInt8), r ≠ [] → (∀ b ∈ r, isD b = true) → (∀ b, r.getLast? = some b → 1 < r.length → b.toNat ≠ 48) → dg (val r.reverse) = r.reverse ∧ (1 < r.length ∨ (∀ b ∈ r, b.toNat ≠ 48) → 0 < val r.reverse)
  | [], h, _, _ => absurd rfl h
  | [b], _, hd, _ => by
    have hb := hd b (by simp)
    have h48 : 48 ≤ b.toNat ∧ b.toNat ≤ 57 := by simpa [isD] using hb
    have hv : val [b] = b.toNat - 48 := by simp [val]
    simp only [List.reverse_singleton, hv]
    refine ⟨?_, ?_⟩
    · rw [dg_small (by omega), ofNat_digit hb]
    · rintro (h | h)
      · simp at h
      · have := h b (by simp); omega
  | b :: c :: r, _, hd, hl => by
    have hb := hd b (by simp)
    have h48 : 48 ≤ b.toNat ∧ b.toNat ≤ 57 := by simpa [isD] using hb
    have hlast : ∀ x, (c :: r).getLast? = some x → x.toNat ≠ 48 := fun x hx => hl x (by simpa using hx) (by simp)
    obtain ⟨ih, ihp⟩ := dg_val_rev (c :: r) (by simp) (fun x hx => hd x (by simp [hx])) (fun x hx _ => hlast x hx)
    have hpos : 0 < val (c :: r).reverse := by
      apply ihp
      cases r with
      | nil => exact .inr fun x hx => by simp at hx; subst hx; exact hlast x rfl
      | cons _ _ => exact .inl (by simp)
    have hv : val (b :: c :: r).reverse = val (c :: r).reverse * 10 + (b.toNat - 48) := by rw [List.reverse_cons, val_snoc]
    rw [hv]
    refine ⟨?_, fun _ => by omega⟩
    rw [dg_big (by omega), show (val (c :: r).reverse * 10 + (b.toNat - 48)) / 10 = val (c :: r).reverse by omega, ih,
      show (val (c :: r).reverse * 10 + (b.toNat - 48)) % 10 = b.toNat - 48 by omega, ofNat_digit hb]
    simp

theorem dg_val {D : List UInt8} (h0 : D ≠ []) (hd : ∀ b ∈ D, isD b = true) (hh : ∀ b, D.head? = some b → 1 < D.length → b.toNat ≠ 48) : dg (val D) = D := by
  have := (dg_val_rev D.reverse (by simpa using h0) (fun b hb => hd b (by simpa using hb)) (fun b hb hl => hh b (by simpa using hb) (by simpa using hl))).1
  simpa using this

theorem digs_isD {s : List UInt8} {p : Nat} : ∀ b ∈ digs s p, isD b = true := fun b hb => by
  unfold digs at hb
  generalize s.drop p = l at hb
  induction l with
  | nil => simp at hb
  | cons a l ih =>
    by_cases ha : isD a = true
    · rw [List.takeWhile_cons_of_pos ha] at hb
      rcases List.mem_cons.1 hb with rfl | hb
      · exact ha
      · exact ih hb
    · rw [List.takeWhile_cons_of_neg ha] at hb; simp at hb

theorem shape_lt {s : List UInt8} {p e last : Nat} (h : shapeS s p e last = 0) (he : e ≤ s.length) : e < s.length ∧ e ≠ p := by
  unfold shapeS at h
  split at h
  · cases h
  · split at h
    · cases h
    · omega
theorem drop_tw {p : UInt8 → Bool} : ∀ (l : List UInt8), l.drop (l.takeWhile p).length = l.dropWhile p
  | [] => rfl
  | a :: l => by
    by_cases ha : p a = true
    · rw [List.takeWhile_cons_of_pos ha, List.dropWhile_cons_of_pos ha]; simpa using drop_tw l
    · rw [List.takeWhile_cons_of_neg ha, List.dropWhile_cons_of_neg ha]; rfl
theorem digs_split {s : List UInt8} {p : Nat} : s.drop p = digs s p ++ s.drop (dend s p) := by
  have h := List.takeWhile_append_dropWhile (p := isD) (l := s.drop p)
  rw [← drop_tw, List.drop_drop] at h
  exact h.symm

theorem bAt_some {s : List UInt8} {i : Nat} {c : UInt8} (hi : i < s.length) (h : bAt s i = c.toNat) : s[i]? = some c := by
  obtain ⟨b, hb⟩ := get_lt hi
  rw [bAt_of hb] at h
  rw [hb]; congr 1; exact UInt8.toNat_inj.1 h

/-- Where the digits and the byte behind them are right. -/
theorem shape_once {s : List UInt8} {p : Nat} {c : UInt8} (hp : p ≤ s.length) (h : shapeS s p (dend s p) c.toNat = 0) : s.drop p = dg (val (digs s p)) ++ c :: s.drop (dend s p + 1) := by
  have hel := dend_le hp
  have hD : dend s p = p + (digs s p).length := rfl
  unfold shapeS at h
  split at h
  · cases h
  · split at h
    · cases h
    · rename_i h1 h2
      have hlt : dend s p < s.length := by omega
      have hc := bAt_some (c := c) hlt (by apply Classical.byContradiction; intro hh; exact h2 (.inr (.inl hh)))
      have hne : digs s p ≠ [] := fun hh => h2 (.inl (by rw [hD, hh]; rfl))
      rw [dg_val hne digs_isD ?_]
      · have e : s.drop (dend s p) = c :: s.drop (dend s p + 1) := by
          rw [List.drop_eq_getElem_cons hlt]; congr 1
          rw [List.getElem?_eq_getElem hlt] at hc; exact Option.some.inj hc
        rw [← e]; exact digs_split
      · intro b hb hl h48
        apply h2
        refine .inr (.inr ⟨by omega, ?_⟩)
        have : (digs s p)[0]? = some b := by rw [← List.head?_eq_getElem?]; exact hb
        rw [digs_get (by omega)] at this
        rw [bAt_of (by simpa using this)]; exact h48

theorem num_once {s : List UInt8} {p : Nat} {n nx : Int} (hp : p ≤ s.length) (h : numP s p = (n, nx, 0)) :
    s.drop p = numS n ++ s.drop nx.toNat ∧ nx = ((p + (numS n).length : Nat) : Int) ∧ -9223372036854775808 ≤ n ∧ n ≤ 9223372036854775807 := by
  have hl : lowB s p = true → p < s.length ∧ bAt s p = 45 := fun h => by simpa [lowB] using h
  unfold numP at h
  generalize hw : lowB s p = low at *
  cases low with
  | false =>
    simp only [Bool.false_eq_true, if_false] at h
    unfold numT at h
    simp only [Bool.false_eq_true, false_and, if_false] at h
    split at h
    · simp only [Prod.mk.injEq] at h; rename_i h0; exact absurd h.2.2 h0
    · rename_i h0
      split at h
      · simp at h
      · rename_i hm
        simp only [Prod.mk.injEq, and_true] at h
        obtain ⟨rfl, rfl⟩ := h
        have h1 := shape_once (c := 59) hp (Classical.not_not.1 h0)
        have hlen := congrArg List.length h1
        have hns : numS (val (digs s p) : Int) = dg (val (digs s p)) ++ [59] := by simp [numS]
        have hD : dend s p = p + (digs s p).length := rfl
        have hel := dend_le hp
        rw [hns]
        simp only [List.length_append, List.length_cons, List.length_drop, List.length_nil] at hlen ⊢
        have hok := shape_lt (Classical.not_not.1 h0) hel
        refine ⟨?_, by omega, by omega, by omega⟩
        rw [show ((dend s p : Int) + 1).toNat = dend s p + 1 by omega]
        rw [h1]; simp
  | true =>
    obtain ⟨hpl, h45⟩ := hl rfl
    simp only [if_true] at h
    unfold numT at h
    simp only [true_and, if_true] at h
    split at h
    · simp only [Prod.mk.injEq] at h; rename_i h0; exact absurd h.2.2 h0
    · rename_i h0
      split at h
      · simp at h
      · rename_i hz
        split at h
        · simp at h
        · rename_i hm
          simp only [Prod.mk.injEq, and_true] at h
          obtain ⟨rfl, rfl⟩ := h
          have h1 := shape_once (s := s) (c := 59) (p := p + 1) (by omega) (Classical.not_not.1 h0)
          have hel := dend_le (s := s) (p := p + 1) (by omega)
          have hok := shape_lt (Classical.not_not.1 h0) hel
          have hD : dend s (p + 1) = p + 1 + (digs s (p + 1)).length := rfl
          have hpos : 0 < val (digs s (p + 1)) := by
            apply Nat.pos_of_ne_zero; intro hv
            rw [hv, dg_zero] at h1
            have hlen := congrArg List.length h1
            simp only [List.length_append, List.length_cons, List.length_drop, List.length_nil] at hlen
            apply hz
            refine ⟨by omega, ?_⟩
            have : (s.drop (p + 1))[0]? = some 48 := by rw [h1]; rfl
            rw [List.getElem?_drop] at this
            rw [bAt_of (by simpa using this)]; rfl
          have hns : numS (-(val (digs s (p + 1)) : Int)) = 45 :: (dg (val (digs s (p + 1))) ++ [59]) := by
            unfold numS; rw [if_pos (by omega), show (-(val (digs s (p + 1)) : Int)).natAbs = val (digs s (p + 1)) by omega]; simp
          have e : s.drop p = 45 :: s.drop (p + 1) := by
            have hc := bAt_some (c := 45) hpl h45
            rw [List.drop_eq_getElem_cons hpl]; congr 1
            rw [List.getElem?_eq_getElem hpl] at hc; exact Option.some.inj hc
          have hlen := congrArg List.length h1
          rw [hns]
          simp only [List.length_append, List.length_cons, List.length_drop, List.length_nil] at hlen ⊢
          refine ⟨?_, by omega, by omega, by omega⟩
          rw [show ((dend s (p + 1) : Int) + 1).toNat = dend s (p + 1) + 1 by omega]
          rw [e, h1]; simp
end Go.Aff.L01

