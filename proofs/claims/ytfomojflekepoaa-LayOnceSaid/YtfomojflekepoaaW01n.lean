/- Layer 1, walked: LayOnce. -/
import Derived.Test.YtfomojflekepoaaW01l
import Derived.Test.YtfomojflekepoaaL01e
namespace Go.Aff.L01
open Go.Proofs Go.Aff
set_option linter.unusedVariables false
set_option linter.unusedSimpArgs false
attribute [local go_sem] Try.underlying3 Try.underlying4 Try.underlying5 Try.underlying9 Try.underlying51 Try.underlying53 Try.underlying27 Try.underlying25 Try.underlying26 fits3 fits9 fits25 fits26

theorem text_once {s t : List UInt8} {p : Nat} {nx : Int} (hp : p ≤ s.length) (h : textP s p = (t, nx, 0)) :
    s.drop p = textS t ++ s.drop nx.toNat ∧ nx = ((p + (textS t).length : Nat) : Int) ∧ ¬ 16384 < t.length := by
  unfold textP at h
  have hel := dend_le hp
  split at h
  · simp only [Prod.mk.injEq] at h; rename_i h0; exact absurd h.2.2 h0
  · rename_i h0
    have h0 := Classical.not_not.1 h0
    split at h
    · simp at h
    · split at h
      · simp at h
      · rename_i hv hlt
        simp only [Prod.mk.injEq, and_true] at h
        obtain ⟨rfl, rfl⟩ := h
        have h1 := shape_once (c := 58) hp h0
        have hok := shape_lt h0 hel
        have hlen := congrArg List.length h1
        have htl : ((s.take (dend s p + 1 + val (digs s p))).drop (dend s p + 1)).length = val (digs s p) := by simp; omega
        have hts : textS ((s.take (dend s p + 1 + val (digs s p))).drop (dend s p + 1)) = dg (val (digs s p)) ++ [58] ++ (s.take (dend s p + 1 + val (digs s p))).drop (dend s p + 1) := by unfold textS; rw [htl]
        have hnx : (((dend s p + 1 + val (digs s p) : Nat) : Int)).toNat = dend s p + 1 + val (digs s p) := by rw [Int.toNat_natCast]
        rw [hts, hnx, htl]
        simp only [List.length_append, List.length_cons, List.length_drop, List.length_nil] at hlen
        refine ⟨?_, ?_, hv⟩
        · rw [h1]
          have : s.drop (dend s p + 1) = (s.take (dend s p + 1 + val (digs s p))).drop (dend s p + 1) ++ s.drop (dend s p + 1 + val (digs s p)) := by
            rw [List.drop_take, show dend s p + 1 + val (digs s p) - (dend s p + 1) = val (digs s p) by omega, ← List.drop_drop (i := val (digs s p)) (j := dend s p + 1), List.take_append_drop]
          conv => lhs; rw [this]
          simp
        · simp only [List.length_append, List.length_cons, List.length_nil, htl]; omega

theorem readL_once {α : Type} {f : α → List UInt8} {one : Nat → α × Int × Int} {s : List UInt8} {pr : α → Prop}
    (hone : ∀ (p : Nat) (a : α) (nx : Int), p ≤ s.length → one p = (a, nx, 0) → s.drop p = f a ++ s.drop nx.toNat ∧ nx = ((p + (f a).length : Nat) : Int) ∧ pr a) :
    ∀ (k p : Nat) (acc l : List α) (nx : Int), s.length - p ≤ k → p ≤ s.length → acc.length ≤ 512 → readL one s p acc = (l, nx, 0) →
      ∃ r, l = acc ++ r ∧ s.drop p = r.flatMap f ++ 41 :: s.drop nx.toNat ∧ nx = ((p + (r.flatMap f).length + 1 : Nat) : Int) ∧ (∀ a ∈ r, pr a) ∧ l.length ≤ 512 := by
  intro k
  induction k with
  | zero =>
    intro p acc l nx hk hp hacc h
    rw [readL, if_pos (by omega)] at h
    simp at h
  | succ k ih =>
    intro p acc l nx hk hp hacc h
    rw [readL] at h
    split at h
    · simp at h
    · rename_i hne
      split at h
      · rename_i h41
        simp only [Prod.mk.injEq, and_true] at h
        obtain ⟨rfl, rfl⟩ := h
        have hlt : p < s.length := by omega
        have hc := bAt_some (c := 41) hlt h41
        refine ⟨[], by simp, ?_, by simp, by simp, hacc⟩
        rw [List.flatMap_nil, List.nil_append, Int.toNat_natCast, List.drop_eq_getElem_cons hlt]; congr 1
        rw [List.getElem?_eq_getElem hlt] at hc; exact Option.some.inj hc
      · split at h
        · simp at h
        · rename_i h512
          split at h
          · simp only [Prod.mk.injEq] at h; rename_i h0; exact absurd h.2.2 h0
          · rename_i h0
            split at h
            · rename_i hpr
              have h0 := Classical.not_not.1 h0
              obtain ⟨e1, e2, e3⟩ := hone p (one p).1 (one p).2.1 hp (by rw [← h0])
              obtain ⟨r, hr1, hr2, hr3, hr4, hr5⟩ := ih (one p).2.1.toNat (acc ++ [(one p).1]) l nx (by omega) (by omega) (by simp; omega) h
              refine ⟨(one p).1 :: r, by rw [hr1]; simp, ?_, ?_, ?_, hr5⟩
              · rw [e1, hr2]; simp
              · rw [hr3, e2]; simp; omega
              · intro a ha
                rcases List.mem_cons.1 ha with rfl | ha
                · exact e3
                · exact hr4 a ha
            · simp at h

theorem readL_err {α : Type} {one : Nat → α × Int × Int} {s : List UInt8} : ∀ (k p : Nat) (acc : List α), s.length - p ≤ k → p ≤ s.length → (readL one s p acc).2.2 ≠ 0 → (readL one s p acc).1 = [] ∧ (readL one s p acc).2.1 = 0 := by
  intro k
  induction k with
  | zero =>
    intro p acc hk hp h
    rw [readL, if_pos (by omega)]
    simp
  | succ k ih =>
    intro p acc hk hp h
    rw [readL] at h ⊢
    split
    · simp
    · split
      · rename_i h1 h2; rw [if_neg h1, if_pos h2] at h; simp at h
      · split
        · simp
        · split
          · simp
          · split
            · rename_i h1 h2 h3 h4 h5
              rw [if_neg h1, if_neg h2, if_neg h3, if_neg h4, dif_pos h5] at h
              exact ih _ _ (by omega) (by omega) h
            · simp

theorem readR_err {α : Type} {one : Nat → α × Int × Int} {s : List UInt8} {i : Int} (h : (readR one s i).2.2 ≠ 0) : (readR one s i).1 = [] ∧ (readR one s i).2.1 = 0 := by
  unfold readR at h ⊢
  split
  · simp
  · split
    · simp
    · split
      · simp
      · rename_i h1 h2 h3
        rw [if_neg h1, if_neg h2, if_neg h3] at h
        exact readL_err _ _ _ (Nat.le_refl _) (by omega) h

theorem list_once {α : Type} {f : α → List UInt8} {one : Nat → α × Int × Int} {s : List UInt8} {pr : α → Prop}
    (hone : ∀ (p : Nat) (a : α) (nx : Int), p ≤ s.length → one p = (a, nx, 0) → s.drop p = f a ++ s.drop nx.toNat ∧ nx = ((p + (f a).length : Nat) : Int) ∧ pr a)
    {p : Nat} {l : List α} {nx : Int} (hp : p ≤ s.length) (h : readR one s p = (l, nx, 0)) :
    s.drop p = laidAll f l ++ s.drop nx.toNat ∧ nx = ((p + (laidAll f l).length : Nat) : Int) ∧ (∀ a ∈ l, pr a) ∧ ¬ 512 < l.length := by
  unfold readR at h
  split at h
  · simp at h
  · split at h
    · simp at h
    · split at h
      · simp at h
      · rename_i h1 h2 h40
        rw [Int.toNat_natCast] at h h2 h40
        have hlt : p < s.length := by omega
        have hc := bAt_some (c := 40) hlt (Classical.not_not.1 h40)
        obtain ⟨r, hr1, hr2, hr3, hr4, hr5⟩ := readL_once (f := f) hone _ (p + 1) [] l nx (Nat.le_refl _) (by omega) (by simp) h
        rw [List.nil_append] at hr1; subst hr1
        refine ⟨?_, ?_, hr4, by omega⟩
        · have : s.drop p = 40 :: s.drop (p + 1) := by
            rw [List.drop_eq_getElem_cons hlt]; congr 1
            rw [List.getElem?_eq_getElem hlt] at hc; exact Option.some.inj hc
          rw [this, hr2]; simp [laidAll, part]
        · rw [hr3]; simp [laidAll, part]; omega

/-- The bytes between two places. -/
theorem between {s x : List UInt8} {p : Nat} {nx : Int} (h : s.drop p = x ++ s.drop nx.toNat) (hn : nx = ((p + x.length : Nat) : Int)) (hp : p ≤ s.length) : p ≤ nx.toNat ∧ nx.toNat ≤ s.length ∧ (s.take nx.toNat).drop p = x := by
  have h2 : nx.toNat = p + x.length := by rw [hn, Int.toNat_natCast]
  have hlen := congrArg List.length h
  rw [h2] at h hlen ⊢
  simp only [List.length_append, List.length_drop] at hlen
  refine ⟨by omega, by omega, ?_⟩
  rw [List.drop_take, show p + x.length - p = x.length by omega, h, List.take_left]

theorem layOnce_c {s : List UInt8} {i : Int} (hi0 : -9223372036854775808 ≤ i) (hi1 : i ≤ 9223372036854775807) {σ : AST} {K : AV → AST → Prop} (hK : K (.bool true) σ) : TCalls Try.prog 8 [.str s, .int .i64 i] σ K := by
  refine tcalls_walk Try.f8 _ [.tmp 4] Try.func8 rfl rfl rfl mixed (Nat.le_of_ble_eq_true rfl) rfl fun hlen => ?_
  have hs : s.length ≤ 9223372036854775807 := hlen (.str s) (by simp)
  refine awp_seq_k fun K1 hK1 => ?_
  simp -dsimp only [↓reduceIte, go_sem]
  refine hK1 _ _ (awp_seq_k fun K2 hK2 => ?_)
  have go : ∀ τ : Env, τ 0 = .str s → τ 1 = .int .i64 i → ¬ (i < 0 ∨ (s.length : Int) < i) → K2 τ σ := by
    intro τ t0 t1 hok
    have hi : (i.toNat : Int) = i := by omega
    generalize hp : i.toNat = p at hi
    have hpl : p ≤ s.length := by omega
    subst hi
    have hsl : ∀ {α : Type} (f : α → AV) (l : List α), (if l = [] then AV.slice .full [] else AV.slice .none (l.map f)) = AV.slice (if l = [] then .full else .none) (l.map f) := by intro α f l; split <;> simp_all
    refine hK2 _ _ (awp_seq_k fun K3 hK3 => ?_)
    -- the texts of a list
    have go4 : ∀ τ : Env, τ 0 = .str s → τ 1 = .int .i64 p → ∀ K5 : Env → AST → Prop, (∀ τ σ, awp Try.prog (match Try.f8.body with | some (.seq _ (.seq _ (.seq _ (.seq _ (.seq _ c))))) => c | _ => .skip) (endQ Try.prog [.tmp 4] K) τ σ → K5 τ σ) → K5 τ σ := by
      intro τ t0 t1 K5 hK5
      refine hK5 _ _ ?_
      simp only [Try.f8]
      simp -dsimp only [↓reduceIte, go_sem, t0, t1]
      refine readTexts_c (by omega) (by omega) ?_
      rcases hres : readR (textP s) s (p : Int) with ⟨l, nx, e⟩
      simp only [tupL]
      rw [hsl]
      have herr := readR_err (one := textP s) (s := s) (i := (p : Int))
      rw [hres] at herr
      dsimp only at herr
      simp -dsimp only [↓reduceIte, go_sem, t0, t1]
      refine boolW_split (fun h1 => ?_) (fun h1 => ?_)
      · have h1 : e ≠ 0 := by simpa using h1
        obtain ⟨rfl, rfl⟩ := herr h1
        simp -dsimp only [↓reduceIte, go_sem, t0, t1]
        rw [show (((0 : Nat) : Int) == 0) = true from rfl]
        simp -dsimp only [↓reduceIte, go_sem, t0, t1]
        exact hK
      · have h1 : e = 0 := by simpa using h1
        subst h1
        obtain ⟨e1, e2, e3, e4⟩ := list_once (f := textS) (fun p a nx hp h => text_once hp h) hpl hres
        obtain ⟨b1, b2, b3⟩ := between e1 e2 hpl
        simp -dsimp only [↓reduceIte, go_sem, t0, t1]
        refine texts_c ?_
        have hno : ¬ (512 < l.length ∨ ∃ x ∈ l, 16384 < x.length) := by
          rintro (h | ⟨x, hx, h⟩)
          · exact e4 h
          · exact e3 x hx h
        rw [textsR, if_neg hno]
        simp -dsimp only [↓reduceIte, go_sem, t0, t1]
        refine side_later (by omega) ?_
        simp -dsimp only [↓reduceIte, go_sem, t0, t1]
        refine side_later (by omega) ?_
        simp -dsimp only [↓reduceIte, go_sem, t0, t1]
        refine ⟨b1, b2, later_intro ?_⟩
        rw [Int.toNat_natCast, b3]
        simp -dsimp only [↓reduceIte, go_sem, t0, t1]
        exact hK
    have go2 : ∀ τ : Env, τ 0 = .str s → τ 1 = .int .i64 p → K3 τ σ := by
      intro τ t0 t1
      refine hK3 _ _ (awp_seq_k fun K4 hK4 => ?_)
      have go3 : ∀ τ : Env, τ 0 = .str s → τ 1 = .int .i64 p → K4 τ σ := by
        intro τ t0 t1
        refine hK4 _ _ (awp_seq_k fun K5 hK5 => ?_)
        have g4 : ∀ τ : Env, τ 0 = .str s → τ 1 = .int .i64 p → K5 τ σ := fun τ t0 t1 => go4 τ t0 t1 K5 hK5
        simp -dsimp only [↓reduceIte, go_sem, t0, t1]
        refine readNumbers_c (by omega) (by omega) ?_
        rcases hres : readR (numP s) s (p : Int) with ⟨l, nx, e⟩
        simp only [tupL]
        rw [hsl]
        simp -dsimp only [↓reduceIte, go_sem, t0, t1]
        refine boolW_split (fun h1 => ?_) (fun h1 => ?_)
        · have h1 : e = 0 := by simpa using h1
          subst h1
          obtain ⟨e1, e2, e3, e4⟩ := list_once (f := numS) (pr := fun n => -9223372036854775808 ≤ n ∧ n ≤ 9223372036854775807) (fun p a nx hp h => num_once hp h) hpl hres
          obtain ⟨b1, b2, b3⟩ := between e1 e2 hpl
          simp -dsimp only [↓reduceIte, go_sem, t0, t1]
          refine numbers_c e3 ?_
          rw [if_neg e4]
          simp -dsimp only [↓reduceIte, go_sem, t0, t1]
          refine side_later (by omega) ?_
          simp -dsimp only [↓reduceIte, go_sem, t0, t1]
          refine side_later (by omega) ?_
          simp -dsimp only [↓reduceIte, go_sem, t0, t1]
          refine ⟨b1, b2, later_intro ?_⟩
          rw [Int.toNat_natCast, b3]
          simp -dsimp only [↓reduceIte, go_sem, t0, t1]
          refine g4 _ ?_ ?_ <;> simp only [go_sem, t0, t1]
        · simp -dsimp only [↓reduceIte, go_sem, t0, t1]
          refine g4 _ ?_ ?_ <;> simp only [go_sem, t0, t1]
      simp -dsimp only [↓reduceIte, go_sem, t0, t1]
      refine readText_n hpl hs ?_
      rcases hres : textP s p with ⟨t, nx, e⟩
      simp only [tupT]
      simp -dsimp only [↓reduceIte, go_sem, t0, t1]
      refine boolW_split (fun h1 => ?_) (fun h1 => ?_)
      · have h1 : e = 0 := by simpa using h1
        subst h1
        obtain ⟨e1, e2, e3⟩ := text_once hpl hres
        obtain ⟨b1, b2, b3⟩ := between e1 e2 hpl
        simp -dsimp only [↓reduceIte, go_sem, t0, t1]
        refine text_c ?_
        rw [if_neg e3]
        simp -dsimp only [↓reduceIte, go_sem, t0, t1]
        refine side_later (by omega) ?_
        simp -dsimp only [↓reduceIte, go_sem, t0, t1]
        refine side_later (by omega) ?_
        simp -dsimp only [↓reduceIte, go_sem, t0, t1]
        refine ⟨b1, b2, later_intro ?_⟩
        rw [Int.toNat_natCast, b3]
        simp -dsimp only [↓reduceIte, go_sem, t0, t1]
        refine go3 _ ?_ ?_ <;> simp only [go_sem, t0, t1]
      · simp -dsimp only [↓reduceIte, go_sem, t0, t1]
        refine go3 _ ?_ ?_ <;> simp only [go_sem, t0, t1]
    refine awp_seq_k fun K6 hK6 => ?_
    simp -dsimp only [↓reduceIte, go_sem, t0, t1]
    refine readNumber_n hpl hs ?_
    rcases hres : numP s p with ⟨n, nx, e⟩
    simp only [tup3]
    simp -dsimp only [↓reduceIte, go_sem, t0, t1]
    refine hK6 _ _ ?_
    refine awp_drawS (id := 4) [0, 1, 2, 3, 5, 6, 7, 8, 4, 9, 10] (by kernel_rfl) ?_
    simp -dsimp only [↓reduceIte, go_sem, t0, t1]
    refine guardV_split (fun h1 => ?_) (fun h1 => ?_) <;> (try rw [h1])
    · have h1 : e = 0 := by simpa using h1
      subst h1
      obtain ⟨e1, e2, e3, e4⟩ := num_once hpl hres
      obtain ⟨b1, b2, b3⟩ := between e1 e2 hpl
      simp -dsimp only [↓reduceIte, go_sem, t0, t1]
      refine side_later (by omega) ?_
      simp -dsimp only [↓reduceIte, go_sem, t0, t1]
      refine side_later (by omega) ?_
      simp -dsimp only [↓reduceIte, go_sem, t0, t1]
      refine ⟨b1, b2, later_intro ?_⟩
      rw [Int.toNat_natCast, b3]
      simp -dsimp only [↓reduceIte, go_sem, t0, t1]
      refine number_c e3 e4 ?_
      simp -dsimp only [↓reduceIte, go_sem, t0, t1]
      refine go2 _ ?_ ?_ <;> simp only [go_sem, t0, t1]
    · simp -dsimp only [↓reduceIte, go_sem, t0, t1]
      refine go2 _ ?_ ?_ <;> simp only [go_sem, t0, t1]
  simp -dsimp only [↓reduceIte, go_sem]
  refine awake_c ?_
  simp -dsimp only [↓reduceIte, go_sem]
  refine guardV_split (fun h1 => ?_) (fun h1 => ?_) <;> (try rw [h1])
  · have h1 : ¬ i < 0 := by simpa using h1
    simp -dsimp only [↓reduceIte, go_sem]
    refine arr_intro fun _ => ?_
    simp -dsimp only [↓reduceIte, go_sem]
    refine boolW_split (fun h2 => ?_) (fun h2 => ?_)
    · simp -dsimp only [↓reduceIte, go_sem]
      refine awake_c ?_
      simp -dsimp only [↓reduceIte, go_sem]
      exact hK
    · have h2 : ¬ (s.length : Int) < i := by simpa using h2
      simp -dsimp only [↓reduceIte, go_sem]
      refine go _ ?_ ?_ (by omega) <;> simp only [go_sem]
  · simp -dsimp only [↓reduceIte, go_sem]
    refine awake_c ?_
    simp -dsimp only [↓reduceIte, go_sem]
    exact hK
end Go.Aff.L01
