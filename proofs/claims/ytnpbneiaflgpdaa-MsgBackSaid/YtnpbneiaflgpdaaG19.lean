import Derived.Test.YtnpbneiaflgpdaaG18

set_option linter.unusedSimpArgs false
set_option linter.unusedVariables false

/- Layer 1, walked: the reference's reading: where digits end, what is wrong. -/
namespace Go.Aff.L01
open Go.Proofs Go.Aff
set_option linter.unusedVariables false
set_option maxRecDepth 20000
set_option linter.unusedSimpArgs false
attribute [local go_sem] Try.underlying3 Try.underlying4 Try.underlying5 Try.underlying9 Try.underlying52 Try.underlying120 Try.underlying34

theorem end_c {s : List UInt8} {p : Nat} (hp : p ≤ s.length) {σ : AST} {K : AV → AST → Prop} (hK : K (.int .i64 (dend s p : Nat)) σ) : TCalls Try.prog 91 [.str s, .int .i64 p] σ K := by
  refine tcalls_walk Try.f91 _ [.tmp 4] Try.func91 rfl rfl rfl mixed (Nat.le_of_ble_eq_true rfl) rfl fun hlen => ?_
  have hs : s.length ≤ 9223372036854775807 := hlen (.str s) (by simp)
  have hde := dend_le hp
  have hdd : dend s p = p + (digs s p).length := rfl
  generalize hD : digs s p = D at *
  generalize hE : dend s p = E at *
  simp -dsimp only [↓reduceIte, go_sem]
  refine awp_rounds (fun (k : Nat) τ s' => s' = σ ∧ τ 0 = .str s ∧ τ 1 = .int .i64 (p + k : Nat) ∧ k ≤ D.length) (fun k => D.length - k) 0 ?_ ?_
  · refine ⟨rfl, ?_, ?_, by omega⟩ <;> simp only [go_sem] <;> rfl
  · rintro k τ s' ⟨rfl, h0, h1, hk⟩
    have hat := digs_at (s := s) (p := p) (k := k) (by rw [hD]; exact hk)
    rw [hD] at hat
    have fin : k = D.length → K (.int .i64 (p + k : Nat)) s' := by
      intro e; subst e; rw [hdd] at hK; exact hK
    have hfin0 : s.length ≤ p + k → k = D.length := fun h => by
      have : ¬ k < D.length := fun hlt => by
        obtain ⟨b, hb, _⟩ := hat.1 hlt
        have := (List.getElem?_eq_some_iff.1 hb).1; omega
      omega
    have hfin1 : ∀ b, s[p + k]? = some b → ¬ (48 ≤ b.toNat ∧ b.toNat ≤ 57) → k = D.length := fun b hb hn => by
      have : ¬ k < D.length := fun hlt => by
        obtain ⟨b', hb', hd⟩ := hat.1 hlt
        rw [hb] at hb'; cases hb'
        simp [isD] at hd; exact hn hd
      omega
    simp -dsimp only [↓reduceIte, go_sem, h0, h1]
    refine arr_intro fun _ => ?_
    simp -dsimp only [↓reduceIte, go_sem, h0, h1]
    refine guardV_split (fun hb => ?_) (fun hb => ?_) <;> (try rw [hb])
    · obtain ⟨b, hbi⟩ := get_lt (l := s) (i := p + k) (by simp at hb; omega)
      simp -dsimp only [↓reduceIte, go_sem, h0, h1]
      refine nth_get hbi ?_
      simp -dsimp only [↓reduceIte, go_sem, h0, h1]
      refine guardV_split (fun hb1 => ?_) (fun hb1 => ?_) <;> (try rw [hb1])
      · simp -dsimp only [↓reduceIte, go_sem, h0, h1]
        refine nth_get hbi ?_
        simp -dsimp only [↓reduceIte, go_sem, h0, h1]
        refine boolW_split (fun hb2 => ?_) (fun hb2 => ?_)
        · simp at hb1 hb2
          have hlt : k < D.length := hat.2 ⟨b, hbi, by simp [isD]; omega⟩
          have hpk : IntKind.i64.wrap (((p + k : Nat) : Int) + 1) = ((p + (k + 1) : Nat) : Int) := by rw [wrap_i64 (by omega) (by omega)]; omega
          simp -dsimp only [↓reduceIte, go_sem, h0, h1]
          refine later_intro ⟨k + 1, by omega, rfl, ?_, ?_, by omega⟩ <;> simp only [go_sem, h0, h1]
          rw [hpk]
        · simp -dsimp only [↓reduceIte, go_sem, h0, h1]
          exact fin (hfin1 b hbi (by simp at hb2; omega))
      · simp -dsimp only [↓reduceIte, go_sem, h0, h1]
        exact fin (hfin1 b hbi (by simp at hb1; omega))
    · simp -dsimp only [↓reduceIte, go_sem, h0, h1]
      exact fin (hfin0 (by simp at hb; omega))

theorem bad_c {s : List UInt8} {p e last : Nat} (hp : p ≤ e) (he : e ≤ s.length) {σ : AST} {K : AV → AST → Prop} (hK : K (.int .i64 (shapeS s p e last)) σ) : TCalls Try.prog 92 [.str s, .int .i64 p, .int .i64 e, .int .u8 last] σ K := by
  refine tcalls_walk Try.f92 _ [.tmp 8] Try.func92 rfl rfl rfl mixed (Nat.le_of_ble_eq_true rfl) rfl fun hlen => ?_
  have hs : s.length ≤ 9223372036854775807 := hlen (.str s) (by simp)
  unfold shapeS at hK
  simp -dsimp only [↓reduceIte, go_sem]
  refine arr_intro fun _ => ?_
  simp -dsimp only [↓reduceIte, go_sem]
  refine boolW_split (fun hb => ?_) (fun hb => ?_)
  · have hb : e = s.length := by simp at hb; omega
    rw [if_pos hb] at hK
    simp -dsimp only [↓reduceIte, go_sem]
    exact hK
  · have hb : ¬ e = s.length := by simp at hb; omega
    rw [if_neg hb] at hK
    obtain ⟨be, hbe⟩ := get_lt (l := s) (i := e) (by omega)
    rw [bAt_of hbe] at hK
    simp -dsimp only [↓reduceIte, go_sem]
    refine guardV_split (fun h1 => ?_) (fun h1 => ?_) <;> (try rw [h1])
    · have h1 : ¬ e = p := by simp at h1; omega
      obtain ⟨bp, hbp⟩ := get_lt (l := s) (i := p) (by omega)
      rw [bAt_of hbp] at hK
      simp -dsimp only [↓reduceIte, go_sem]
      refine nth_get hbe ?_
      simp -dsimp only [↓reduceIte, go_sem]
      refine boolW_split (fun h2 => ?_) (fun h2 => ?_)
      · have h2 : ¬ be.toNat = last := by simp at h2; omega
        rw [if_pos (.inr (.inl h2))] at hK
        simp -dsimp only [↓reduceIte, go_sem]
        exact hK
      · have h2 : be.toNat = last := by simp at h2; omega
        simp -dsimp only [↓reduceIte, go_sem]
        rw [wrap_i64 (by omega) (by omega)]
        refine guardV_split (fun h3 => ?_) (fun h3 => ?_) <;> (try rw [h3])
        · have h3 : 1 < e - p := by simp at h3; omega
          simp -dsimp only [↓reduceIte, go_sem]
          refine nth_get hbp ?_
          simp -dsimp only [↓reduceIte, go_sem]
          refine boolW_split (fun h4 => ?_) (fun h4 => ?_)
          · have h4 : bp.toNat = 48 := by simp at h4; omega
            rw [if_pos (.inr (.inr ⟨h3, h4⟩))] at hK
            simp -dsimp only [↓reduceIte, go_sem]
            exact hK
          · have h4 : ¬ bp.toNat = 48 := by simp at h4; omega
            rw [if_neg (by omega)] at hK
            simp -dsimp only [↓reduceIte, go_sem]
            exact hK
        · have h3 : ¬ 1 < e - p := by simp at h3; omega
          rw [if_neg (by omega)] at hK
          simp -dsimp only [↓reduceIte, go_sem]
          exact hK
    · have h1 : e = p := by simp at h1; omega
      rw [if_pos (.inl h1)] at hK
      simp -dsimp only [↓reduceIte, go_sem]
      exact hK
end Go.Aff.L01

/- Layer 1: no laid thing begins another one. Plain. -/
namespace Go.Aff.L01
open Go.Aff
set_option linter.unusedSimpArgs false

theorem toNat_ofNat {n : Nat} (h : n < 256) : (UInt8.ofNat n).toNat = n := by simp [UInt8.toNat_ofNat']; omega

theorem dg_isD : ∀ (n : Nat), ∀ b ∈ dg n, isD b = true := by
  intro n
  induction n using Nat.strongRecOn with
  | ind n ih =>
  intro b hb
  by_cases h : n < 10
  · rw [dg_small h] at hb; simp at hb; subst hb
    simp only [isD, toNat_ofNat (show 48 + n < 256 by omega)]; simp; omega
  · rw [dg_big h] at hb
    rcases List.mem_append.1 hb with hb | hb
    · exact ih (n / 10) (by omega) b hb
    · simp at hb; subst hb
      have := toNat_ofNat (show 48 + n % 10 < 256 by omega)
      simp only [isD, this]; simp; omega

theorem val_dg : ∀ (n : Nat), val (dg n) = n := by
  intro n
  induction n using Nat.strongRecOn with
  | ind n ih =>
  by_cases h : n < 10
  · rw [dg_small h]
    have := toNat_ofNat (show 48 + n < 256 by omega)
    simp only [val, List.foldl_cons, List.foldl_nil, this]; omega
  · rw [dg_big h, val_snoc, ih (n / 10) (by omega), toNat_ofNat (by omega)]; omega

theorem dg_inj {n m : Nat} (h : dg n = dg m) : n = m := by rw [← val_dg n, ← val_dg m, h]
theorem dg_ne {n : Nat} : dg n ≠ [] := by
  by_cases h : n < 10
  · rw [dg_small h]; simp
  · rw [dg_big h]; simp

/-- Two that both end at the first such byte: one begins the other one only if they are the same; what follows is compared in turn. -/
theorem stop_prefix {c : UInt8} : ∀ {l m x y : List UInt8}, c ∉ l → c ∉ m → (l ++ c :: x) <+: (m ++ c :: y) → l = m ∧ x <+: y
  | [], [], x, y, _, _, h => by simpa using h
  | [], b :: m, x, y, _, hm, h => by
    simp only [List.nil_append, List.cons_append, List.cons_prefix_cons] at h
    exact absurd (by simp [h.1]) hm
  | a :: l, [], x, y, hl, _, h => by
    simp only [List.nil_append, List.cons_append, List.cons_prefix_cons] at h
    exact absurd (by simp [h.1]) hl
  | a :: l, b :: m, x, y, hl, hm, h => by
    simp only [List.cons_append, List.cons_prefix_cons] at h
    obtain ⟨h1, h2⟩ := stop_prefix (fun hh => hl (by simp [hh])) (fun hh => hm (by simp [hh])) h.2
    exact ⟨by rw [h.1, h1], h2⟩

theorem not_in_dg {c : UInt8} {n : Nat} (h : isD c = false) : c ∉ dg n := fun hc => by
  have := dg_isD n c hc; rw [h] at this; cases this

theorem numS_apart {a b : Int} (hab : a ≠ b) : ¬ numS a <+: numS b := by
  intro h
  have key : ∀ n : Int, (59 : UInt8) ∉ (if n < 0 then [45] else []) ++ dg n.natAbs := by
    intro n hc
    rcases List.mem_append.1 hc with hc | hc
    · split at hc <;> simp at hc
    · exact not_in_dg (by decide) hc
  unfold numS at h
  obtain ⟨h1, _⟩ := stop_prefix (c := 59) (key a) (key b) h
  apply hab
  have n45 : ∀ n : Nat, (45 : UInt8) ∉ dg n := fun n => not_in_dg (by decide)
  by_cases ha : a < 0
  · by_cases hb : b < 0
    · simp only [if_pos ha, if_pos hb, List.cons_append, List.nil_append, List.cons.injEq, true_and] at h1
      have := dg_inj h1; omega
    · simp only [if_pos ha, if_neg hb, List.cons_append, List.nil_append] at h1
      exact absurd (by rw [← h1]; simp) (n45 b.natAbs)
  · by_cases hb : b < 0
    · simp only [if_neg ha, if_pos hb, List.cons_append, List.nil_append] at h1
      exact absurd (by rw [h1]; simp) (n45 a.natAbs)
    · simp only [if_neg ha, if_neg hb, List.nil_append] at h1
      have := dg_inj h1; omega

end Go.Aff.L01

/- Layer 1: what was laid is read as it was. Plain. -/
namespace Go.Aff.L01
open Go.Aff
set_option linter.unusedSimpArgs false
set_option linter.unusedVariables false

theorem digs_laid {x y : List UInt8} {c : UInt8} (n : Nat) (hc : isD c = false) : digs (x ++ (dg n ++ c :: y)) x.length = dg n := by
  unfold digs
  rw [List.drop_left, List.takeWhile_append_of_pos (dg_isD n)]
  rw [List.takeWhile_cons_of_neg (by simp [hc])]; simp
theorem dend_laid {x y : List UInt8} {c : UInt8} (n : Nat) (hc : isD c = false) : dend (x ++ (dg n ++ c :: y)) x.length = x.length + (dg n).length := by
  unfold dend; rw [digs_laid n hc]
theorem bAt_left {x y : List UInt8} {c : UInt8} : bAt (x ++ c :: y) x.length = c.toNat := by simp [bAt]
theorem bAt_end {x l y : List UInt8} {c : UInt8} : bAt (x ++ (l ++ c :: y)) (x.length + l.length) = c.toNat := by
  rw [← List.append_assoc, ← List.length_append]; exact bAt_left

theorem dg_head : ∀ (n : Nat), 0 < n → ∃ b r, dg n = b :: r ∧ b.toNat ≠ 48 := by
  intro n
  induction n using Nat.strongRecOn with
  | ind n ih =>
  intro hn
  by_cases h : n < 10
  · rw [dg_small h]
    exact ⟨_, [], rfl, by rw [toNat_ofNat (by omega)]; omega⟩
  · obtain ⟨b, r, hb, h48⟩ := ih (n / 10) (by omega) (by omega)
    rw [dg_big h, hb]
    exact ⟨b, _, rfl, h48⟩
theorem dg_zero : dg 0 = [48] := by rw [dg_small (by decide)]; rfl

theorem shape_laid {x y : List UInt8} {c : UInt8} (n : Nat) (hc : isD c = false) : shapeS (x ++ (dg n ++ c :: y)) x.length (x.length + (dg n).length) c.toNat = 0 := by
  have hne : 0 < (dg n).length := List.length_pos_iff.2 dg_ne
  unfold shapeS
  rw [if_neg (by simp), if_neg]
  rintro (h | h | ⟨h1, h2⟩)
  · omega
  · exact h bAt_end
  · by_cases hn : n = 0
    · subst hn; rw [dg_zero] at h1; simp at h1
    · obtain ⟨b, r, hb, h48⟩ := dg_head n (by omega)
      rw [hb, List.cons_append, bAt_left] at h2
      exact h48 h2

theorem num_back {x y : List UInt8} {n : Int} (h0 : -9223372036854775808 ≤ n) (h1 : n ≤ 9223372036854775807) : numP (x ++ (numS n ++ y)) x.length = (n, ((x.length + (numS n).length : Nat) : Int), 0) := by
  have c59 : isD 59 = false := by decide
  by_cases hn : n < 0
  · have e : x ++ (numS n ++ y) = (x ++ [45]) ++ (dg n.natAbs ++ 59 :: y) := by simp [numS, hn]
    have hl : (x ++ [(45 : UInt8)]).length = x.length + 1 := by simp
    have low : lowB (x ++ (numS n ++ y)) x.length = true := by
      rw [lowB, show x ++ (numS n ++ y) = x ++ 45 :: (dg n.natAbs ++ 59 :: y) by simp [numS, hn], bAt_left]; simp
    have hd := dend_laid (x := x ++ [45]) (y := y) (c := 59) n.natAbs c59
    have hg := digs_laid (x := x ++ [45]) (y := y) (c := 59) n.natAbs c59
    have hsh := shape_laid (x := x ++ [45]) (y := y) (c := 59) n.natAbs c59
    rw [numP, low]
    simp only [if_true]
    rw [numT, e]
    rw [hl] at hd hg hsh
    rw [hd, hg, val_dg]
    rw [show (59 : UInt8).toNat = 59 from rfl] at hsh
    rw [if_neg (not_not_intro hsh)]
    obtain ⟨b, r, hb, h48⟩ := dg_head n.natAbs (by omega)
    have hbq : bAt ((x ++ [45]) ++ (dg n.natAbs ++ 59 :: y)) (x.length + 1) ≠ 48 := by
      rw [hb, ← hl, List.cons_append, bAt_left]; exact h48
    rw [if_neg (fun h => hbq h.2.2), if_neg (by omega)]
    simp only [if_true, numS, if_pos hn, List.length_append, List.length_cons, List.length_nil, Prod.mk.injEq]
    exact ⟨by omega, by omega, trivial⟩
  · have e : x ++ (numS n ++ y) = x ++ (dg n.natAbs ++ 59 :: y) := by simp [numS, hn]
    have low : lowB (x ++ (numS n ++ y)) x.length = false := by
      obtain ⟨b, r, hb⟩ := List.exists_cons_of_ne_nil (dg_ne (n := n.natAbs))
      have hbd := dg_isD n.natAbs b (by rw [hb]; simp)
      rw [lowB, e, hb, List.cons_append, bAt_left]
      simp [isD] at hbd
      simp; omega
    have hd := dend_laid (x := x) (y := y) (c := 59) n.natAbs c59
    have hg := digs_laid (x := x) (y := y) (c := 59) n.natAbs c59
    have hsh := shape_laid (x := x) (y := y) (c := 59) n.natAbs c59
    rw [numP, low]
    simp only [Bool.false_eq_true, if_false]
    rw [numT, e, hd, hg, val_dg]
    rw [show (59 : UInt8).toNat = 59 from rfl] at hsh
    rw [if_neg (not_not_intro hsh), if_neg (by simp), if_neg (by omega)]
    simp only [Bool.false_eq_true, if_false, numS, if_neg hn, List.length_append, List.length_cons, List.length_nil, Prod.mk.injEq]
    exact ⟨by omega, by omega, trivial⟩

end Go.Aff.L01

/- Layer 1: what is read is laid as the very bytes. Plain. -/
namespace Go.Aff.L01
open Go.Aff
set_option linter.unusedSimpArgs false
set_option linter.unusedVariables false

theorem ofNat_digit {b : UInt8} (h : isD b = true) : UInt8.ofNat (48 + (b.toNat - 48)) = b := by
  simp [isD] at h
  rw [show 48 + (b.toNat - 48) = b.toNat by omega]
  simp

/-- Digits without a zero ahead are the digits of what they say. -/
theorem dg_val_rev : ∀ (r : List UInt8), r ≠ [] → (∀ b ∈ r, isD b = true) → (∀ b, r.getLast? = some b → 1 < r.length → b.toNat ≠ 48) → dg (val r.reverse) = r.reverse ∧ (1 < r.length ∨ (∀ b ∈ r, b.toNat ≠ 48) → 0 < val r.reverse)
  | [], h, _, _ => absurd rfl h
  | [b], _, hd, _ => by
    have hb := hd b (by simp)
    have h48 : 48 ≤ b.toNat ∧ b.toNat ≤ 57 := by simpa [isD] using hb
    have hv : val [b] = b.toNat - 48 := by simp [val]
    simp only [List.reverse_singleton, hv]
    refine ⟨?_, ?_⟩
    · rw [dg_small (by omega), ofNat_digit hb]
    · rintro (h | h)
      · simp at h
      · have := h b (by simp); omega
  | b :: c :: r, _, hd, hl => by
    have hb := hd b (by simp)
    have h48 : 48 ≤ b.toNat ∧ b.toNat ≤ 57 := by simpa [isD] using hb
    have hlast : ∀ x, (c :: r).getLast? = some x → x.toNat ≠ 48 := fun x hx => hl x (by simpa using hx) (by simp)
    obtain ⟨ih, ihp⟩ := dg_val_rev (c :: r) (by simp) (fun x hx => hd x (by simp [hx])) (fun x hx _ => hlast x hx)
    have hpos : 0 < val (c :: r).reverse := by
      apply ihp
      cases r with
      | nil => exact .inr fun x hx => by simp at hx; subst hx; exact hlast x rfl
      | cons _ _ => exact .inl (by simp)
    have hv : val (b :: c :: r).reverse = val (c :: r).reverse * 10 + (b.toNat - 48) := by rw [List.reverse_cons, val_snoc]
    rw [hv]
    refine ⟨?_, fun _ => by omega⟩
    rw [dg_big (by omega), show (val (c :: r).reverse * 10 + (b.toNat - 48)) / 10 = val (c :: r).reverse by omega, ih,
      show (val (c :: r).reverse * 10 + (b.toNat - 48)) % 10 = b.toNat - 48 by omega, ofNat_digit hb]
    simp

theorem dg_val {D : List UInt8} (h0 : D ≠ []) (hd : ∀ b ∈ D, isD b = true) (hh : ∀ b, D.head? = some b → 1 < D.length → b.toNat ≠ 48) : dg (val D) = D := by
  have := (dg_val_rev D.reverse (by simpa using h0) (fun b hb => hd b (by simpa using hb)) (fun b hb hl => hh b (by simpa using hb) (by simpa using hl))).1
  simpa using this

theorem digs_isD {s : List UInt8} {p : Nat} : ∀ b ∈ digs s p, isD b = true := fun b hb => by
  unfold digs at hb
  generalize s.drop p = l at hb
  induction l with
  | nil => simp at hb
  | cons a l ih =>
    by_cases ha : isD a = true
    · rw [List.takeWhile_cons_of_pos ha] at hb
      rcases List.mem_cons.1 hb with rfl | hb
      · exact ha
      · exact ih hb
    · rw [List.takeWhile_cons_of_neg ha] at hb; simp at hb

theorem shape_lt {s : List UInt8} {p e last : Nat} (h : shapeS s p e last = 0) (he : e ≤ s.length) : e < s.length ∧ e ≠ p := by
  unfold shapeS at h
  split at h
  · cases h
  · split at h
    · cases h
    · omega
theorem drop_tw {p : UInt8 → Bool} : ∀ (l : List UInt8), l.drop (l.takeWhile p).length = l.dropWhile p
  | [] => rfl
  | a :: l => by
    by_cases ha : p a = true
    · rw [List.takeWhile_cons_of_pos ha, List.dropWhile_cons_of_pos ha]; simpa using drop_tw l
    · rw [List.takeWhile_cons_of_neg ha, List.dropWhile_cons_of_neg ha]; rfl
theorem digs_split {s : List UInt8} {p : Nat} : s.drop p = digs s p ++ s.drop (dend s p) := by
  have h := List.takeWhile_append_dropWhile (p := isD) (l := s.drop p)
  rw [← drop_tw, List.drop_drop] at h
  exact h.symm

theorem bAt_some {s : List UInt8} {i : Nat} {c : UInt8} (hi : i < s.length) (h : bAt s i = c.toNat) : s[i]? = some c := by
  obtain ⟨b, hb⟩ := get_lt hi
  rw [bAt_of hb] at h
  rw [hb]; congr 1; exact UInt8.toNat_inj.1 h

/-- Where the digits and the byte behind them are right. -/
theorem shape_once {s : List UInt8} {p : Nat} {c : UInt8} (hp : p ≤ s.length) (h : shapeS s p (dend s p) c.toNat = 0) : s.drop p = dg (val (digs s p)) ++ c :: s.drop (dend s p + 1) := by
  have hel := dend_le hp
  have hD : dend s p = p + (digs s p).length := rfl
  unfold shapeS at h
  split at h
  · cases h
  · split at h
    · cases h
    · rename_i h1 h2
      have hlt : dend s p < s.length := by omega
      have hc := bAt_some (c := c) hlt (by apply Classical.byContradiction; intro hh; exact h2 (.inr (.inl hh)))
      have hne : digs s p ≠ [] := fun hh => h2 (.inl (by rw [hD, hh]; rfl))
      rw [dg_val hne digs_isD ?_]
      · have e : s.drop (dend s p) = c :: s.drop (dend s p + 1) := by
          rw [List.drop_eq_getElem_cons hlt]; congr 1
          rw [List.getElem?_eq_getElem hlt] at hc; exact Option.some.inj hc
        rw [← e]; exact digs_split
      · intro b hb hl h48
        apply h2
        refine .inr (.inr ⟨by omega, ?_⟩)
        have : (digs s p)[0]? = some b := by rw [← List.head?_eq_getElem?]; exact hb
        rw [digs_get (by omega)] at this
        rw [bAt_of (by simpa using this)]; exact h48

theorem num_once {s : List UInt8} {p : Nat} {n nx : Int} (hp : p ≤ s.length) (h : numP s p = (n, nx, 0)) :
    s.drop p = numS n ++ s.drop nx.toNat ∧ nx = ((p + (numS n).length : Nat) : Int) ∧ -9223372036854775808 ≤ n ∧ n ≤ 9223372036854775807 := by
  have hl : lowB s p = true → p < s.length ∧ bAt s p = 45 := fun h => by simpa [lowB] using h
  unfold numP at h
  generalize hw : lowB s p = low at *
  cases low with
  | false =>
    simp only [Bool.false_eq_true, if_false] at h
    unfold numT at h
    simp only [Bool.false_eq_true, false_and, if_false] at h
    split at h
    · simp only [Prod.mk.injEq] at h; rename_i h0; exact absurd h.2.2 h0
    · rename_i h0
      split at h
      · simp at h
      · rename_i hm
        simp only [Prod.mk.injEq, and_true] at h
        obtain ⟨rfl, rfl⟩ := h
        have h1 := shape_once (c := 59) hp (Classical.not_not.1 h0)
        have hlen := congrArg List.length h1
        have hns : numS (val (digs s p) : Int) = dg (val (digs s p)) ++ [59] := by simp [numS]
        have hD : dend s p = p + (digs s p).length := rfl
        have hel := dend_le hp
        rw [hns]
        simp only [List.length_append, List.length_cons, List.length_drop, List.length_nil] at hlen ⊢
        have hok := shape_lt (Classical.not_not.1 h0) hel
        refine ⟨?_, by omega, by omega, by omega⟩
        rw [show ((dend s p : Int) + 1).toNat = dend s p + 1 by omega]
        rw [h1]; simp
  | true =>
    obtain ⟨hpl, h45⟩ := hl rfl
    simp only [if_true] at h
    unfold numT at h
    simp only [true_and, if_true] at h
    split at h
    · simp only [Prod.mk.injEq] at h; rename_i h0; exact absurd h.2.2 h0
    · rename_i h0
      split at h
      · simp at h
      · rename_i hz
        split at h
        · simp at h
        · rename_i hm
          simp only [Prod.mk.injEq, and_true] at h
          obtain ⟨rfl, rfl⟩ := h
          have h1 := shape_once (s := s) (c := 59) (p := p + 1) (by omega) (Classical.not_not.1 h0)
          have hel := dend_le (s := s) (p := p + 1) (by omega)
          have hok := shape_lt (Classical.not_not.1 h0) hel
          have hD : dend s (p + 1) = p + 1 + (digs s (p + 1)).length := rfl
          have hpos : 0 < val (digs s (p + 1)) := by
            apply Nat.pos_of_ne_zero; intro hv
            rw [hv, dg_zero] at h1
            have hlen := congrArg List.length h1
            simp only [List.length_append, List.length_cons, List.length_drop, List.length_nil] at hlen
            apply hz
            refine ⟨by omega, ?_⟩
            have : (s.drop (p + 1))[0]? = some 48 := by rw [h1]; rfl
            rw [List.getElem?_drop] at this
            rw [bAt_of (by simpa using this)]; rfl
          have hns : numS (-(val (digs s (p + 1)) : Int)) = 45 :: (dg (val (digs s (p + 1))) ++ [59]) := by
            unfold numS; rw [if_pos (by omega), show (-(val (digs s (p + 1)) : Int)).natAbs = val (digs s (p + 1)) by omega]; simp
          have e : s.drop p = 45 :: s.drop (p + 1) := by
            have hc := bAt_some (c := 45) hpl h45
            rw [List.drop_eq_getElem_cons hpl]; congr 1
            rw [List.getElem?_eq_getElem hpl] at hc; exact Option.some.inj hc
          have hlen := congrArg List.length h1
          rw [hns]
          simp only [List.length_append, List.length_cons, List.length_drop, List.length_nil] at hlen ⊢
          refine ⟨?_, by omega, by omega, by omega⟩
          rw [show ((dend s (p + 1) : Int) + 1).toNat = dend s (p + 1) + 1 by omega]
          rw [e, h1]; simp
end Go.Aff.L01

/- Layer 1, walked: the reference's numbers that are read. -/
namespace Go.Aff.L01
open Go.Proofs Go.Aff
set_option linter.unusedVariables false
set_option maxRecDepth 20000
set_option linter.unusedSimpArgs false
attribute [local go_sem] Try.underlying3 Try.underlying4 Try.underlying5 Try.underlying9 Try.underlying52 Try.underlying120 Try.underlying34

theorem val_mono {D : List UInt8} : ∀ (k : Nat), val (D.take k) ≤ val D := by
  intro k
  by_cases h : D.length ≤ k
  · rw [List.take_of_length_le h]; exact Nat.le_refl _
  · induction hn : D.length - k generalizing k with
    | zero => omega
    | succ n ih =>
      obtain ⟨b, hb⟩ := get_lt (l := D) (i := k) (by omega)
      have h1 := val_take_succ hb
      by_cases h2 : D.length ≤ k + 1
      · rw [List.take_of_length_le h2] at h1; omega
      · have := ih (k + 1) h2 (by omega); omega

theorem one_zero {s : List UInt8} {q e : Nat} (h1 : q < e) (h2 : e ≤ s.length) : ((s.take e).drop q == [48]) = decide (e = q + 1 ∧ bAt s q = 48) := by
  obtain ⟨b, hb⟩ := get_lt (l := s) (i := q) (by omega)
  have hd : s.drop q = b :: s.drop (q + 1) := by
    rw [List.drop_eq_getElem_cons (by omega)]; congr 1
    rw [List.getElem?_eq_getElem (by omega)] at hb; exact Option.some.inj hb
  rw [bAt_of hb, Bool.eq_iff_iff, beq_iff_eq, decide_eq_true_eq, List.drop_take, hd]
  constructor
  · intro h
    have hl := congrArg List.length h
    simp only [List.length_take, List.length_cons, List.length_drop, List.length_nil] at hl
    have e1 : e = q + 1 := by omega
    refine ⟨e1, ?_⟩
    rw [e1, show q + 1 - q = 1 by omega] at h
    simp at h; rw [h]; rfl
  · rintro ⟨rfl, h⟩
    rw [show q + 1 - q = 1 by omega]
    simp; exact UInt8.toNat_inj.1 h

theorem ReadNumber_c {s : List UInt8} {i : Int} (hi0 : -9223372036854775808 ≤ i) (hi1 : i ≤ 9223372036854775807) {σ : AST} {K : AV → AST → Prop}
    (hK : K (tup3 (numR s i)) σ) : TCalls Try.prog 72 [.str s, .int .i64 i] σ K := by
  refine tcalls_walk Try.f72 _ [.tmp 4, .tmp 5, .tmp 6] Try.func72 rfl rfl rfl mixed (Nat.le_of_ble_eq_true rfl) rfl fun hlen => ?_
  have hs : s.length ≤ 9223372036854775807 := hlen (.str s) (by simp)
  refine awp_seq_k fun KA hKA => ?_
  simp -dsimp only [↓reduceIte, go_sem]
  refine hKA _ _ (awp_seq_k fun KB hKB => ?_)
  have go : ∀ τ : Env, τ 0 = .str s → τ 1 = .int .i64 i → ¬ (i < 0 ∨ (s.length : Int) < i) → KB τ σ := by
    intro τ t0 t1 hok
    have hi : (i.toNat : Int) = i := by omega
    rw [numR, if_neg hok] at hK
    generalize hp : i.toNat = p at hi hK
    have hpl : p ≤ s.length := by omega
    rw [← hi] at t1
    refine hKB _ _ (awp_seq_k fun KC hKC => ?_)
    simp -dsimp only [↓reduceIte, go_sem, t0, t1]
    refine hKC _ _ (awp_seq_k fun KD hKD => ?_)
    rw [numP] at hK
    have hlp : lowB s p = true → p < s.length := fun h => by simp [lowB] at h; exact h.1
    generalize hlow : lowB s p = low at *
    have tail : ∀ (τ : Env) (q most : Nat), q = (if low then p + 1 else p) → most = (if low then 9223372036854775808 else 9223372036854775807) → τ 0 = .str s → τ 1 = .int .i64 p → τ 7 = .int .i64 q → KD τ σ := by
      intro τ q most hq hmost t0 t1 t7
      have hql : q ≤ s.length := by
        rw [hq]; split
        · rename_i h; have := hlp h; omega
        · exact hpl
      have hqp : (low = true → q = p + 1 ∧ most = 9223372036854775808) ∧ (low = false → q = p ∧ most = 9223372036854775807) := by rw [hq, hmost]; cases low <;> simp
      have hel := dend_le hql
      have heq : q ≤ dend s q := by unfold dend; omega
      rw [← hq, ← hmost, numT] at hK
      refine hKD _ _ (awp_seq_k fun KE hKE => ?_)
      simp -dsimp only [↓reduceIte, go_sem, t0, t1, t7]
      refine end_c hql ?_
      simp -dsimp only [↓reduceIte, go_sem, t0, t1, t7]
      refine hKE _ _ (awp_seq_k fun KF hKF => ?_)
      simp -dsimp only [↓reduceIte, go_sem, t0, t1, t7]
      refine bad_c (last := 59) heq hel ?_
      simp -dsimp only [↓reduceIte, go_sem, t0, t1, t7]
      refine hKF _ _ (awp_seq_k fun KG hKG => ?_)
      generalize hsh : shapeS s q (dend s q) 59 = sh at *
      simp -dsimp only [↓reduceIte, go_sem, t0, t1, t7]
      refine boolW_split (fun h1 => ?_) (fun h1 => ?_)
      · have h1 : sh ≠ 0 := by simpa using h1
        rw [if_pos h1] at hK
        simp -dsimp only [↓reduceIte, go_sem, t0, t1, t7]
        exact hK
      · have h1 : sh = 0 := by simpa using h1
        rw [if_neg (by simp [h1])] at hK
        rw [h1] at hsh
        have hlt := shape_ok hsh hel
        have hee : dend s q = q + (digs s q).length := rfl
        have hDg : ∀ k, k < (digs s q).length → (digs s q)[k]? = s[q + k]? := fun k hk => digs_get hk
        have hDd : ∀ b ∈ digs s q, 48 ≤ b.toNat ∧ b.toNat ≤ 57 := fun b hb => by have := digs_isD b hb; simpa [isD] using this
        generalize hD : digs s q = D at *
        generalize hE : dend s q = e at *
        have big : most < val D → ¬ (low = true ∧ e = q + 1 ∧ bAt s q = 48) → K (tup3 (0, 0, 4)) σ := fun h h2 => by
          rw [if_neg h2, if_pos h] at hK; exact hK
        have fine : ¬ most < val D → ¬ (low = true ∧ e = q + 1 ∧ bAt s q = 48) → K (tup3 (if low then -(val D : Int) else (val D : Int), (e : Int) + 1, 0)) σ := fun h h2 => by
          rw [if_neg h2, if_neg h] at hK; exact hK
        simp -dsimp only [↓reduceIte, go_sem, t0, t1, t7]
        refine hKG _ _ (awp_seq_k fun KH hKH => ?_)
        have rest : ∀ τ : Env, τ 0 = .str s → τ 1 = .int .i64 p → τ 7 = .int .i64 q → τ 8 = .int .i64 e → ¬ (low = true ∧ e = q + 1 ∧ bAt s q = 48) → KH τ σ := by
          intro τ t0 t1 t7 t8 hno
          refine hKH _ _ ?_
          simp -dsimp only [↓reduceIte, go_sem, t0, t1, t7, t8]
          refine awp_rounds (fun (k : Nat) τ s' => s' = σ ∧ τ 0 = .str s ∧ τ 1 = .int .i64 p ∧ τ 7 = .int .i64 q ∧ τ 8 = .int .i64 e ∧ τ 11 = .int .i64 (q + k : Nat) ∧ k ≤ D.length ∧ τ 10 = .int .i64 (-(val (D.take k) : Int)) ∧ val (D.take k) ≤ 9223372036854775808) (fun k => D.length - k) 0 ?_ ?_
          · refine ⟨rfl, ?_, ?_, ?_, ?_, ?_, by omega, ?_, by simp [val]⟩ <;> simp only [go_sem, t0, t1, t7, t8] <;> rfl
          · rintro k τ s' ⟨rfl, t0, t1, t7, t8, t11, hk, t10, hv⟩
            simp -dsimp only [↓reduceIte, go_sem, t0, t1, t7, t8, t10, t11]
            refine boolW_split (fun h2 => ?_) (fun h2 => ?_)
            · have h2 : k < D.length := by simp at h2; omega
              obtain ⟨b, hb⟩ := get_lt h2
              have hbs := hDg k h2
              rw [hb] at hbs
              have hbd := hDd b (List.mem_iff_getElem?.2 ⟨k, hb⟩)
              have hval := val_take_succ hb
              simp -dsimp only [↓reduceIte, go_sem, t0, t1, t7, t8, t10, t11]
              refine nth_get hbs.symm ?_
              simp -dsimp only [↓reduceIte, go_sem, t0, t1, t7, t8, t10, t11]
              rw [show IntKind.i64.wrap (IntKind.i64.wrap (b.toNat : Int) - 48) = ((b.toNat - 48 : Nat) : Int) by rw [wrap_i64 (n := (b.toNat : Int)) (by omega) (by omega), wrap_i64 (by omega) (by omega)]; omega]
              have ht := tdiv10_neg (n := -9223372036854775808 + ((b.toNat - 48 : Nat) : Int)) (by omega)
              rw [show IntKind.i64.wrap (-9223372036854775808 + ((b.toNat - 48 : Nat) : Int)) = -9223372036854775808 + ((b.toNat - 48 : Nat) : Int) by rw [wrap_i64 (by omega) (by omega)], ht]
              rw [wrap_i64 (n := -(-(-9223372036854775808 + ((b.toNat - 48 : Nat) : Int)) / 10)) (by omega) (by omega)]
              refine boolW_split (fun h3 => ?_) (fun h3 => ?_)
              · have hm := val_mono (D := D) (k + 1)
                have h3 : most < val D := by simp at h3; rw [hval] at hm; clear hval ht; have : most ≤ 9223372036854775808 := by rw [hmost]; split <;> omega
                                             omega
                simp -dsimp only [↓reduceIte, go_sem, t0, t1, t7, t8, t10, t11]
                exact big h3 hno
              · have h3 : val (D.take (k + 1)) ≤ 9223372036854775808 := by simp at h3; rw [hval]; clear hval ht; omega
                simp -dsimp only [↓reduceIte, go_sem, t0, t1, t7, t8, t10, t11]
                refine later_intro ⟨k + 1, by omega, rfl, ?_, ?_, ?_, ?_, ?_, by omega, ?_, h3⟩ <;> simp only [go_sem, t0, t1, t7, t8, t10, t11]
                · rw [wrap_i64 (by omega) (by omega)]; congr 1
                · rw [wrap_i64 (n := -(val (D.take k) : Int) * 10) (by omega) (by omega), wrap_i64 (by omega) (by omega)]; congr 1; omega
            · have h2 : k = D.length := by simp at h2; omega
              subst h2
              rw [List.take_length] at t10 hv
              simp -dsimp only [↓reduceIte, go_sem, t0, t1, t7, t8, t10, t11]
              have he1 : IntKind.i64.wrap ((e : Int) + 1) = (e : Int) + 1 := wrap_i64 (by omega) (by omega)
              cases low with
              | true =>
                obtain ⟨hq1, hm1⟩ := hqp.1 rfl
                refine boolW_split (fun h3 => ?_) (fun h3 => ?_)
                · simp at h3; omega
                · simp -dsimp only [↓reduceIte, go_sem, t0, t1, t7, t8, t10, t11]
                  rw [he1]
                  have := fine (by omega) hno
                  exact this
              | false =>
                obtain ⟨hq1, hm1⟩ := hqp.2 rfl
                refine boolW_split (fun h3 => ?_) (fun h3 => ?_)
                · simp -dsimp only [↓reduceIte, go_sem, t0, t1, t7, t8, t10, t11]
                  refine boolW_split (fun h4 => ?_) (fun h4 => ?_)
                  · have h4 : most < val D := by simp at h4; omega
                    simp -dsimp only [↓reduceIte, go_sem, t0, t1, t7, t8, t10, t11]
                    exact big h4 hno
                  · have h4 : ¬ most < val D := by simp at h4; omega
                    simp -dsimp only [↓reduceIte, go_sem, t0, t1, t7, t8, t10, t11]
                    rw [he1, wrap_i64 (by omega) (by omega)]
                    have := fine h4 hno
                    rw [show (0 : Int) - -(val D : Int) = (val D : Int) by omega]
                    exact this
                · simp at h3; omega
        simp -dsimp only [↓reduceIte, go_sem, t0, t1, t7]
        refine guardV_split (fun h2 => ?_) (fun h2 => ?_) <;> (try rw [h2])
        · have h2 : p < q := by simp at h2; omega
          have hlow1 : low = true := by
            cases low with
            | true => rfl
            | false => have := (hqp.2 rfl).1; omega
          simp -dsimp only [↓reduceIte, go_sem, t0, t1, t7]
          refine side_later (by omega) ?_
          simp -dsimp only [↓reduceIte, go_sem, t0, t1, t7]
          refine side_later (by omega) ?_
          simp -dsimp only [↓reduceIte, go_sem, t0, t1, t7]
          refine ⟨by omega, by omega, later_intro ?_⟩
          simp -dsimp only [↓reduceIte, go_sem, t0, t1, t7]
          have heq2 : ((s.take e).drop q == [48]) = decide (e = q + 1 ∧ bAt s q = 48) := one_zero (by omega) (by omega)
          rw [heq2]
          refine boolW_split (fun h3 => ?_) (fun h3 => ?_)
          · have h3 : e = q + 1 ∧ bAt s q = 48 := by simpa using h3
            rw [if_pos ⟨hlow1, h3⟩] at hK
            simp -dsimp only [↓reduceIte, go_sem, t0, t1, t7]
            exact hK
          · have h3 : ¬ (e = q + 1 ∧ bAt s q = 48) := by simpa using h3
            simp -dsimp only [↓reduceIte, go_sem, t0, t1, t7]
            refine rest _ ?_ ?_ ?_ ?_ (fun h => h3 h.2) <;> simp only [go_sem, t0, t1, t7]
        · have h2 : ¬ p < q := by simp at h2; omega
          have hlow1 : low = false := by
            cases low with
            | false => rfl
            | true => have := (hqp.1 rfl).1; omega
          simp -dsimp only [↓reduceIte, go_sem, t0, t1, t7]
          refine rest _ ?_ ?_ ?_ ?_ (fun h => by rw [hlow1] at h; cases h.1) <;> simp only [go_sem, t0, t1, t7]
    -- where reading begins
    simp -dsimp only [↓reduceIte, go_sem, t0, t1]
    refine arr_intro fun _ => ?_
    simp -dsimp only [↓reduceIte, go_sem, t0, t1]
    refine guardV_split (fun h1 => ?_) (fun h1 => ?_) <;> (try rw [h1])
    · have h1 : p < s.length := by simp at h1; omega
      obtain ⟨b, hb⟩ := get_lt h1
      simp -dsimp only [↓reduceIte, go_sem, t0, t1]
      refine nth_get hb ?_
      simp -dsimp only [↓reduceIte, go_sem, t0, t1]
      refine boolW_split (fun h2 => ?_) (fun h2 => ?_)
      · have h2 : b.toNat = 45 := by simp at h2; omega
        have hl1 : low = true := by rw [← hlow, lowB, bAt_of hb]; simp [h1, h2]
        simp -dsimp only [↓reduceIte, go_sem, t0, t1]
        rw [wrap_i64 (by omega) (by omega)]
        refine tail _ (p + 1) _ (by rw [hl1]; rfl) rfl ?_ ?_ ?_ <;> simp only [go_sem, t0, t1]
        rfl
      · have h2 : ¬ b.toNat = 45 := by simp at h2; omega
        have hl1 : low = false := by rw [← hlow, lowB, bAt_of hb]; simp [h2]
        simp -dsimp only [↓reduceIte, go_sem, t0, t1]
        refine tail _ p _ (by rw [hl1]; rfl) rfl ?_ ?_ ?_ <;> simp only [go_sem, t0, t1]
    · have h1 : ¬ p < s.length := by simp at h1; omega
      have hl1 : low = false := by rw [← hlow, lowB]; simp [h1]
      simp -dsimp only [↓reduceIte, go_sem, t0, t1]
      refine tail _ p _ (by rw [hl1]; rfl) rfl ?_ ?_ ?_ <;> simp only [go_sem, t0, t1]
  have bad : i < 0 ∨ (s.length : Int) < i → K (tup3 (0, 0, 3)) σ := fun h => by
    rw [numR, if_pos h] at hK; exact hK
  simp -dsimp only [↓reduceIte, go_sem]
  refine guardV_split (fun h1 => ?_) (fun h1 => ?_) <;> (try rw [h1])
  · have h1 : ¬ i < 0 := by simpa using h1
    simp -dsimp only [↓reduceIte, go_sem]
    refine arr_intro fun _ => ?_
    simp -dsimp only [↓reduceIte, go_sem]
    refine boolW_split (fun h2 => ?_) (fun h2 => ?_)
    · have h2 : (s.length : Int) < i := by simpa using h2
      simp -dsimp only [↓reduceIte, go_sem]
      exact bad (.inr h2)
    · have h2 : ¬ (s.length : Int) < i := by simpa using h2
      simp -dsimp only [↓reduceIte, go_sem]
      refine go _ ?_ ?_ (by omega) <;> simp only [go_sem]
  · have h1 : i < 0 := by simpa using h1
    simp -dsimp only [↓reduceIte, go_sem]
    exact bad (.inl h1)
end Go.Aff.L01

/- Layer 1, walked: a text that is read. -/
namespace Go.Aff.L01
open Go.Proofs Go.Aff
set_option linter.unusedVariables false
set_option maxRecDepth 20000
set_option linter.unusedSimpArgs false
attribute [local go_sem] Try.underlying3 Try.underlying4 Try.underlying5 Try.underlying9 Try.underlying52 Try.underlying120 Try.underlying34

/-- What reading a text comes to. -/
def textP (s : List UInt8) (p : Nat) : List UInt8 × Int × Int :=
  if shapeS s p (dend s p) 58 ≠ 0 then ([], 0, shapeS s p (dend s p) 58) else
  if 16384 < val (digs s p) then ([], 0, 4) else
  if s.length < dend s p + 1 + val (digs s p) then ([], 0, 5) else
  ((s.take (dend s p + 1 + val (digs s p))).drop (dend s p + 1), ((dend s p + 1 + val (digs s p) : Nat) : Int), 0)
def textR (s : List UInt8) (i : Int) : List UInt8 × Int × Int := if i < 0 ∨ (s.length : Int) < i then ([], 0, 3) else textP s i.toNat
def tupT (x : List UInt8 × Int × Int) : AV := .tuple [.str x.1, .int .i64 x.2.1, .int .i64 x.2.2]

theorem readText_c {s : List UInt8} {i : Int} (hi0 : -9223372036854775808 ≤ i) (hi1 : i ≤ 9223372036854775807) {σ : AST} {K : AV → AST → Prop}
    (hK : K (tupT (textR s i)) σ) : TCalls Try.prog 88 [.str s, .int .i64 i] σ K := by
  refine tcalls_walk Try.f88 _ [.tmp 4, .tmp 5, .tmp 6] Try.func88 rfl rfl rfl mixed (Nat.le_of_ble_eq_true rfl) rfl fun hlen => ?_
  have hs : s.length ≤ 9223372036854775807 := hlen (.str s) (by simp)
  refine awp_seq_k fun KA hKA => ?_
  simp -dsimp only [↓reduceIte, go_sem]
  refine hKA _ _ (awp_seq_k fun KB hKB => ?_)
  have go : ∀ τ : Env, τ 0 = .str s → τ 1 = .int .i64 i → ¬ (i < 0 ∨ (s.length : Int) < i) → KB τ σ := by
    intro τ t0 t1 hok
    have hi : (i.toNat : Int) = i := by omega
    rw [textR, if_neg hok] at hK
    generalize hp : i.toNat = p at hi hK
    have hpl : p ≤ s.length := by omega
    rw [← hi] at t1
    have hel := dend_le hpl
    have heq : p ≤ dend s p := by unfold dend; omega
    rw [textP] at hK
    refine hKB _ _ ?_
    simp -dsimp only [↓reduceIte, go_sem, t0, t1]
    refine run_c (most := 16384) hpl (by omega) (by omega) ?_
    simp -dsimp only [↓reduceIte, go_sem, t0, t1]
    refine shape_c (last := 58) heq hel ?_
    generalize hval : val (digs s p) = v at *
    generalize hee : dend s p = e at *
    generalize hsh : shapeS s p e 58 = sh at *
    simp -dsimp only [↓reduceIte, go_sem, t0, t1]
    refine boolW_split (fun h1 => ?_) (fun h1 => ?_)
    · have h1 : sh ≠ 0 := by simp at h1; exact h1
      rw [if_pos h1] at hK
      simp -dsimp only [↓reduceIte, go_sem, t0, t1]
      exact hK
    · have h1 : sh = 0 := by simp at h1; exact h1
      rw [if_neg (by simp [h1])] at hK
      rw [h1] at hsh
      have hlt := shape_ok hsh hel
      simp -dsimp only [↓reduceIte, go_sem, t0, t1]
      refine boolW_split (fun h2 => ?_) (fun h2 => ?_)
      · have h2 : 16384 < v := by simp at h2; omega
        rw [if_pos h2] at hK
        simp -dsimp only [↓reduceIte, go_sem, t0, t1]
        exact hK
      · have h2 : ¬ 16384 < v := by simp at h2; omega
        rw [if_neg h2] at hK
        have hmod : v % 18446744073709551616 = v := by omega
        have hw : IntKind.i64.wrap ((v : Nat) : Int) = (v : Int) := wrap_i64 (by omega) (by omega)
        have he1 : IntKind.i64.wrap ((e : Int) + 1) = ((e + 1 : Nat) : Int) := by rw [wrap_i64 (by omega) (by omega)]; omega
        simp -dsimp only [↓reduceIte, go_sem, t0, t1]
        refine arr_intro fun _ => ?_
        simp -dsimp only [↓reduceIte, go_sem, t0, t1]
        rw [hmod, hw, he1, wrap_i64 (n := (s.length : Int) - _) (by omega) (by omega)]
        refine boolW_split (fun h3 => ?_) (fun h3 => ?_)
        · have h3 : s.length < e + 1 + v := by simp at h3; omega
          rw [if_pos h3] at hK
          simp -dsimp only [↓reduceIte, go_sem, t0, t1]
          exact hK
        · have h3 : ¬ s.length < e + 1 + v := by simp at h3; omega
          rw [if_neg h3] at hK
          simp -dsimp only [↓reduceIte, go_sem, t0, t1]
          refine side_later (by omega) ?_
          have hfin : IntKind.i64.wrap (((e + 1 : Nat) : Int) + (v : Int)) = ((e + 1 + v : Nat) : Int) := by rw [wrap_i64 (by omega) (by omega)]; omega
          rw [hw, hfin]
          simp -dsimp only [↓reduceIte, go_sem, t0, t1]
          refine side_later (by omega) ?_
          simp -dsimp only [↓reduceIte, go_sem, t0, t1]
          refine ⟨by omega, by omega, later_intro ?_⟩
          simp -dsimp only [↓reduceIte, go_sem, t0, t1]
          rw [hw, hfin]
          exact hK
  have bad : i < 0 ∨ (s.length : Int) < i → K (tupT ([], 0, 3)) σ := fun h => by
    rw [textR, if_pos h] at hK; exact hK
  simp -dsimp only [↓reduceIte, go_sem]
  refine guardV_split (fun h1 => ?_) (fun h1 => ?_) <;> (try rw [h1])
  · have h1 : ¬ i < 0 := by simpa using h1
    simp -dsimp only [↓reduceIte, go_sem]
    refine arr_intro fun _ => ?_
    simp -dsimp only [↓reduceIte, go_sem]
    refine boolW_split (fun h2 => ?_) (fun h2 => ?_)
    · have h2 : (s.length : Int) < i := by simpa using h2
      simp -dsimp only [↓reduceIte, go_sem]
      exact bad (.inr h2)
    · have h2 : ¬ (s.length : Int) < i := by simpa using h2
      simp -dsimp only [↓reduceIte, go_sem]
      refine go _ ?_ ?_ (by omega) <;> simp only [go_sem]
  · have h1 : i < 0 := by simpa using h1
    simp -dsimp only [↓reduceIte, go_sem]
    exact bad (.inl h1)
end Go.Aff.L01

