import Derived.Test.YtcekccpehlnnbaaG14
import Derived.Test.YtcekccpehlnnbaaG12
import Derived.Test.YtcekccpehlnnbaaG11

/- Layer 1, walked: lists compared; lists that are read, by their names. -/
namespace Go.Aff.L01
open Go.Proofs Go.Aff
set_option linter.unusedVariables false
set_option linter.unusedSimpArgs false
attribute [local go_sem] Try.underlying3 Try.underlying4 Try.underlying5 Try.underlying9 Try.underlying44 Try.underlying73 Try.underlying26 Try.underlying23 Try.underlying47 fits3 fits9

theorem readNumbers_c {s : List UInt8} {i : Int} (hi0 : -9223372036854775808 ≤ i) (hi1 : i ≤ 9223372036854775807) {σ : AST} {K : AV → AST → Prop}
    (hK : K (tupL (AV.int .i64) (readR (numP s) s i)) σ) : TCalls Try.prog 31 [.str s, .int .i64 i] σ K := by
  refine tcalls_walk Try.f31 _ [.tmp 4, .tmp 5, .tmp 6] Try.func31 rfl rfl rfl mixed (Nat.le_of_ble_eq_true rfl) rfl fun hlen => ?_
  simp -dsimp only [↓reduceIte, go_sem]
  refine readInts_c hi0 hi1 ?_
  unfold tupL at hK ⊢
  generalize readR (numP s) s i = r at hK ⊢
  obtain ⟨l, n, e⟩ := r
  dsimp only at hK ⊢
  split
  · rename_i h; rw [if_pos h] at hK
    simp -dsimp only [↓reduceIte, go_sem]
    exact hK
  · rename_i h; rw [if_neg h] at hK
    simp -dsimp only [↓reduceIte, go_sem]
    exact hK
theorem readTexts_c {s : List UInt8} {i : Int} (hi0 : -9223372036854775808 ≤ i) (hi1 : i ≤ 9223372036854775807) {σ : AST} {K : AV → AST → Prop}
    (hK : K (tupL AV.str (readR (textP s) s i)) σ) : TCalls Try.prog 32 [.str s, .int .i64 i] σ K := by
  refine tcalls_walk Try.f32 _ [.tmp 4, .tmp 5, .tmp 6] Try.func32 rfl rfl rfl mixed (Nat.le_of_ble_eq_true rfl) rfl fun hlen => ?_
  simp -dsimp only [↓reduceIte, go_sem]
  refine readStrs_c hi0 hi1 ?_
  unfold tupL at hK ⊢
  generalize readR (textP s) s i = r at hK ⊢
  obtain ⟨l, n, e⟩ := r
  dsimp only at hK ⊢
  split
  · rename_i h; rw [if_pos h] at hK
    simp -dsimp only [↓reduceIte, go_sem]
    exact hK
  · rename_i h; rw [if_neg h] at hK
    simp -dsimp only [↓reduceIte, go_sem]
    exact hK

theorem ints_c {a b : List Int} {ta tb : Tk} {σ : AST} {K : AV → AST → Prop} (hK : K (.bool (decide (a = b))) σ) : TCalls Try.prog 36 [.slice ta (a.map (AV.int .i64)), .slice tb (b.map (AV.int .i64))] σ K := by
  refine tcalls_walk Try.f36 _ [.tmp 4] Try.func36 rfl rfl rfl mixed (Nat.le_of_ble_eq_true rfl) rfl fun hlen => ?_
  have ha : a.length ≤ 9223372036854775807 := by
    have := hlen (.slice ta (a.map (AV.int .i64))) (by simp)
    simp only [lenOk, List.length_map, maxL] at this; exact this
  simp -dsimp only [↓reduceIte, go_sem]
  refine arr_intro fun _ => ?_
  simp -dsimp only [↓reduceIte, go_sem]
  refine arr_intro fun _ => ?_
  simp only [List.length_map]
  simp -dsimp only [↓reduceIte, go_sem]
  refine boolW_split (fun h1 => ?_) (fun h1 => ?_)
  · have h1 : a.length ≠ b.length := by simp at h1; omega
    simp -dsimp only [↓reduceIte, go_sem]
    rw [show decide (a = b) = false by simp; intro h; rw [h] at h1; exact h1 rfl] at hK
    exact hK
  · have h1 : a.length = b.length := by simp at h1; omega
    simp -dsimp only [↓reduceIte, go_sem]
    refine awp_rounds (fun (i : Nat) τ s => s = σ ∧ i ≤ a.length ∧ τ 0 = .slice ta (a.map (AV.int .i64)) ∧ τ 1 = .slice tb (b.map (AV.int .i64)) ∧ τ 5 = .int .i64 i ∧ a.take i = b.take i) (fun i => a.length - i) 0 ?_ ?_
    · refine ⟨rfl, by omega, ?_, ?_, ?_, by simp⟩ <;> simp only [go_sem] <;> rfl
    · rintro i τ s ⟨rfl, hi, t0, t1, t5, ht⟩
      simp -dsimp only [↓reduceIte, go_sem, t0, t1, t5]
      refine arr_intro fun _ => ?_
      simp only [List.length_map]
      simp -dsimp only [↓reduceIte, go_sem, t0, t1, t5]
      refine boolW_split (fun h2 => ?_) (fun h2 => ?_)
      · have h2 : i < a.length := by simp at h2; omega
        obtain ⟨x, hx⟩ := get_lt h2
        obtain ⟨y, hy⟩ := get_lt (l := b) (i := i) (by omega)
        simp -dsimp only [↓reduceIte, go_sem, t0, t1, t5]
        refine awp_drawS [0, 1, 2, 3, 4, 5, 6, 7, 8] (by kernel_rfl) ?_
        simp -dsimp only [↓reduceIte, go_sem, t0, t1, t5]
        refine nth_get hx ?_
        simp -dsimp only [↓reduceIte, go_sem, t0, t1, t5]
        refine nth_get hy ?_
        simp -dsimp only [↓reduceIte, go_sem, t0, t1, t5]
        refine boolW_split (fun h3 => ?_) (fun h3 => ?_)
        · have h3 : x ≠ y := by simpa using h3
          simp -dsimp only [↓reduceIte, go_sem, t0, t1, t5]
          rw [show decide (a = b) = false by simp; intro h; rw [h, hy] at hx; exact h3 (Option.some.inj hx).symm] at hK
          exact hK
        · have h3 : x = y := by simpa using h3
          simp -dsimp only [↓reduceIte, go_sem, t0, t1, t5]
          rw [wrap_i64 (by omega) (by omega)]
          refine later_intro ⟨i + 1, by omega, ?_⟩
          refine ⟨rfl, by omega, ?_, ?_, ?_, ?_⟩ <;> (try simp only [go_sem, t0, t1, t5]) <;> try rfl
          rw [List.take_add_one, List.take_add_one, ht, hx, hy, h3]
      · have h2 : i = a.length := by simp at h2; omega
        simp -dsimp only [↓reduceIte, go_sem, t0, t1, t5]
        rw [h2, List.take_length, h1, List.take_length] at ht
        rw [show decide (a = b) = true by simpa using ht] at hK
        exact hK

end Go.Aff.L01

/- Layer 1, walked: LayBack. -/
namespace Go.Aff.L01
open Go.Proofs Go.Aff
set_option linter.unusedVariables false
set_option linter.unusedSimpArgs false
theorem fits25 {v : AV} : fits Try.prog 23 v = (v.isAgg = false ∧ v.size = 1) := fits_leaf (by kernel_rfl) (by kernel_rfl)
theorem fits26 {v : AV} : fits Try.prog 47 v = (v.isAgg = false ∧ v.size = 1) := fits_leaf (by kernel_rfl) (by kernel_rfl)
attribute [local go_sem] Try.underlying3 Try.underlying4 Try.underlying5 Try.underlying9 Try.underlying44 Try.underlying73 Try.underlying26 Try.underlying23 Try.underlying47 fits3 fits9 fits25 fits26

theorem text_back {x y t : List UInt8} (ht : ¬ 16384 < t.length) : textP (x ++ (textS t ++ y)) x.length = (t, ((x.length + (textS t).length : Nat) : Int), 0) := by
  have c58 : isD 58 = false := by decide
  have e : x ++ (textS t ++ y) = x ++ (dg t.length ++ 58 :: (t ++ y)) := by simp [textS]
  have hd := dend_laid (x := x) (y := t ++ y) (c := 58) t.length c58
  have hg := digs_laid (x := x) (y := t ++ y) (c := 58) t.length c58
  have hsh := shape_laid (x := x) (y := t ++ y) (c := 58) t.length c58
  rw [show (58 : UInt8).toNat = 58 from rfl] at hsh
  rw [textP, e, hd, hg, val_dg, if_neg (not_not_intro hsh), if_neg ht, if_neg (by simp; omega)]
  have e2 : x ++ (dg t.length ++ 58 :: (t ++ y)) = (x ++ dg t.length ++ [58]) ++ (t ++ y) := by simp
  have hl : (x ++ dg t.length ++ [(58 : UInt8)]).length = x.length + (dg t.length).length + 1 := by simp; omega
  rw [e2]
  simp only [Prod.mk.injEq, and_true]
  constructor
  · rw [show x.length + (dg t.length).length + 1 + t.length = (x ++ dg t.length ++ [(58 : UInt8)] ++ t).length by simp; omega, ← List.append_assoc, List.take_left, ← hl, List.drop_left]
  · simp [textS]; omega

theorem readL_back {α : Type} {f : α → List UInt8} {one : Nat → α × Int × Int} {S y : List UInt8} {p : α → Prop}
    (hone : ∀ (u v : List UInt8) (a : α), p a → S = u ++ (f a ++ v) → (∃ b r, f a = b :: r ∧ b.toNat ≠ 41) ∧ one u.length = (a, ((u.length + (f a).length : Nat) : Int), 0)) :
    ∀ (l : List α) (acc : List α) (u : List UInt8), (∀ a ∈ l, p a) → S = u ++ (l.flatMap f ++ 41 :: y) → acc.length + l.length ≤ 512 → readL one S u.length acc = (acc ++ l, ((u.length + (l.flatMap f).length + 1 : Nat) : Int), 0)
  | [], acc, u, hp, hS, hl => by
    rw [readL, if_neg (by rw [hS]; simp), if_pos (by rw [hS]; simp only [List.flatMap_nil, List.nil_append]; rw [bAt_left]; rfl)]
    simp
  | a :: r, acc, u, hp, hS, hl => by
    have hS2 : S = u ++ (f a ++ (r.flatMap f ++ 41 :: y)) := by rw [hS]; simp
    obtain ⟨⟨b, t, hb, h41⟩, h1⟩ := hone u _ a (hp a (by simp)) hS2
    have hbt : bAt S u.length = b.toNat := by rw [hS2, hb, List.cons_append, bAt_left]
    have hlen : u.length + (f a).length ≤ S.length := by rw [hS2]; simp
    have hpos : 0 < (f a).length := by rw [hb]; simp
    simp only [List.length_cons] at hl
    rw [readL, if_neg (by rw [hS2, hb]; simp), if_neg (by rw [hbt]; exact h41), if_neg (by omega), h1]
    dsimp only
    rw [if_neg (by simp), dif_pos ⟨by omega, by omega⟩]
    have e : (((u.length + (f a).length : Nat) : Int)).toNat = (u ++ f a).length := by rw [Int.toNat_natCast, List.length_append]
    rw [e, readL_back (y := y) hone r (acc ++ [a]) (u ++ f a) (fun x hx => hp x (by simp [hx])) (by rw [hS2]; simp) (by simp; omega)]
    simp; omega

theorem list_back {α : Type} {f : α → List UInt8} {one : List UInt8 → Nat → α × Int × Int} {x y : List UInt8} {l : List α} {p : α → Prop} (hp : ∀ a ∈ l, p a) (hl : ¬ 512 < l.length)
    (hone : ∀ (u v : List UInt8) (a : α), p a → (∃ b r, f a = b :: r ∧ b.toNat ≠ 41) ∧ one (u ++ (f a ++ v)) u.length = (a, ((u.length + (f a).length : Nat) : Int), 0)) :
    readR (one (x ++ (laidAll f l ++ y))) (x ++ (laidAll f l ++ y)) x.length = (l, ((x.length + (laidAll f l).length : Nat) : Int), 0) := by
  have e : x ++ (laidAll f l ++ y) = (x ++ [40]) ++ (l.flatMap f ++ 41 :: y) := by simp [laidAll, part]
  rw [readR, if_neg (by simp; omega), if_neg (by simp [laidAll, part]), if_neg (by
    rw [show x ++ (laidAll f l ++ y) = x ++ 40 :: (l.flatMap f ++ 41 :: y) by simp [laidAll, part]]
    simp only [Int.toNat_natCast]; rw [bAt_left]; simp)]
  have h := readL_back (f := f) (one := one (x ++ (laidAll f l ++ y))) (S := x ++ (laidAll f l ++ y)) (y := y) (p := p) (fun u v a ha hS => by rw [hS]; exact hone u v a ha) l [] (x ++ [40]) hp e (by simp; omega)
  rw [show (x ++ [(40 : UInt8)]).length = (x.length : Int).toNat + 1 by simp] at h
  rw [h]
  simp [laidAll, part]; omega

theorem numS_first (n : Int) : ∃ b r, numS n = b :: r ∧ b.toNat ≠ 41 := by
  unfold numS
  split
  · exact ⟨45, _, rfl, by decide⟩
  · obtain ⟨b, r, hb⟩ := List.exists_cons_of_ne_nil (dg_ne (n := n.natAbs))
    have := dg_isD n.natAbs b (by rw [hb]; simp)
    simp [isD] at this
    exact ⟨b, r ++ [59], by rw [hb]; rfl, by omega⟩
theorem textS_first (t : List UInt8) : ∃ b r, textS t = b :: r ∧ b.toNat ≠ 41 := by
  unfold textS
  obtain ⟨b, r, hb⟩ := List.exists_cons_of_ne_nil (dg_ne (n := t.length))
  have := dg_isD t.length b (by rw [hb]; simp)
  simp [isD] at this
  exact ⟨b, r ++ [58] ++ t, by rw [hb]; rfl, by omega⟩

theorem ints_back {x y : List UInt8} {l : List Int} (h : ∀ n ∈ l, -9223372036854775808 ≤ n ∧ n ≤ 9223372036854775807) (hl : ¬ 512 < l.length) :
    readR (numP (x ++ (laidAll numS l ++ y))) (x ++ (laidAll numS l ++ y)) x.length = (l, ((x.length + (laidAll numS l).length : Nat) : Int), 0) :=
  list_back (p := fun n => -9223372036854775808 ≤ n ∧ n ≤ 9223372036854775807) h hl fun u v a ha => ⟨numS_first a, num_back ha.1 ha.2⟩
theorem texts_back {x y : List UInt8} {l : List (List UInt8)} (h : ∀ t ∈ l, ¬ 16384 < t.length) (hl : ¬ 512 < l.length) :
    readR (textP (x ++ (laidAll textS l ++ y))) (x ++ (laidAll textS l ++ y)) x.length = (l, ((x.length + (laidAll textS l).length : Nat) : Int), 0) :=
  list_back (p := fun t => ¬ 16384 < t.length) h hl fun u v a ha => ⟨textS_first a, text_back ha⟩

end Go.Aff.L01

/- Layer 1, walked: LayOnce. -/
namespace Go.Aff.L01
open Go.Proofs Go.Aff
set_option linter.unusedVariables false
set_option linter.unusedSimpArgs false
attribute [local go_sem] Try.underlying3 Try.underlying4 Try.underlying5 Try.underlying9 Try.underlying44 Try.underlying73 Try.underlying26 Try.underlying23 Try.underlying47 fits3 fits9 fits25 fits26

theorem text_once {s t : List UInt8} {p : Nat} {nx : Int} (hp : p ≤ s.length) (h : textP s p = (t, nx, 0)) :
    s.drop p = textS t ++ s.drop nx.toNat ∧ nx = ((p + (textS t).length : Nat) : Int) ∧ ¬ 16384 < t.length := by
  unfold textP at h
  have hel := dend_le hp
  split at h
  · simp only [Prod.mk.injEq] at h; rename_i h0; exact absurd h.2.2 h0
  · rename_i h0
    have h0 := Classical.not_not.1 h0
    split at h
    · simp at h
    · split at h
      · simp at h
      · rename_i hv hlt
        simp only [Prod.mk.injEq, and_true] at h
        obtain ⟨rfl, rfl⟩ := h
        have h1 := shape_once (c := 58) hp h0
        have hok := shape_lt h0 hel
        have hlen := congrArg List.length h1
        have htl : ((s.take (dend s p + 1 + val (digs s p))).drop (dend s p + 1)).length = val (digs s p) := by simp; omega
        have hts : textS ((s.take (dend s p + 1 + val (digs s p))).drop (dend s p + 1)) = dg (val (digs s p)) ++ [58] ++ (s.take (dend s p + 1 + val (digs s p))).drop (dend s p + 1) := by unfold textS; rw [htl]
        have hnx : (((dend s p + 1 + val (digs s p) : Nat) : Int)).toNat = dend s p + 1 + val (digs s p) := by rw [Int.toNat_natCast]
        rw [hts, hnx, htl]
        simp only [List.length_append, List.length_cons, List.length_drop, List.length_nil] at hlen
        refine ⟨?_, ?_, hv⟩
        · rw [h1]
          have : s.drop (dend s p + 1) = (s.take (dend s p + 1 + val (digs s p))).drop (dend s p + 1) ++ s.drop (dend s p + 1 + val (digs s p)) := by
            rw [List.drop_take, show dend s p + 1 + val (digs s p) - (dend s p + 1) = val (digs s p) by omega, ← List.drop_drop (i := val (digs s p)) (j := dend s p + 1), List.take_append_drop]
          conv => lhs; rw [this]
          simp
        · simp only [List.length_append, List.length_cons, List.length_nil, htl]; omega

theorem readL_once {α : Type} {f : α → List UInt8} {one : Nat → α × Int × Int} {s : List UInt8} {pr : α → Prop}
    (hone : ∀ (p : Nat) (a : α) (nx : Int), p ≤ s.length → one p = (a, nx, 0) → s.drop p = f a ++ s.drop nx.toNat ∧ nx = ((p + (f a).length : Nat) : Int) ∧ pr a) :
    ∀ (k p : Nat) (acc l : List α) (nx : Int), s.length - p ≤ k → p ≤ s.length → acc.length ≤ 512 → readL one s p acc = (l, nx, 0) →
      ∃ r, l = acc ++ r ∧ s.drop p = r.flatMap f ++ 41 :: s.drop nx.toNat ∧ nx = ((p + (r.flatMap f).length + 1 : Nat) : Int) ∧ (∀ a ∈ r, pr a) ∧ l.length ≤ 512 := by
  intro k
  induction k with
  | zero =>
    intro p acc l nx hk hp hacc h
    rw [readL, if_pos (by omega)] at h
    simp at h
  | succ k ih =>
    intro p acc l nx hk hp hacc h
    rw [readL] at h
    split at h
    · simp at h
    · rename_i hne
      split at h
      · rename_i h41
        simp only [Prod.mk.injEq, and_true] at h
        obtain ⟨rfl, rfl⟩ := h
        have hlt : p < s.length := by omega
        have hc := bAt_some (c := 41) hlt h41
        refine ⟨[], by simp, ?_, by simp, by simp, hacc⟩
        rw [List.flatMap_nil, List.nil_append, Int.toNat_natCast, List.drop_eq_getElem_cons hlt]; congr 1
        rw [List.getElem?_eq_getElem hlt] at hc; exact Option.some.inj hc
      · split at h
        · simp at h
        · rename_i h512
          split at h
          · simp only [Prod.mk.injEq] at h; rename_i h0; exact absurd h.2.2 h0
          · rename_i h0
            split at h
            · rename_i hpr
              have h0 := Classical.not_not.1 h0
              obtain ⟨e1, e2, e3⟩ := hone p (one p).1 (one p).2.1 hp (by rw [← h0])
              obtain ⟨r, hr1, hr2, hr3, hr4, hr5⟩ := ih (one p).2.1.toNat (acc ++ [(one p).1]) l nx (by omega) (by omega) (by simp; omega) h
              refine ⟨(one p).1 :: r, by rw [hr1]; simp, ?_, ?_, ?_, hr5⟩
              · rw [e1, hr2]; simp
              · rw [hr3, e2]; simp; omega
              · intro a ha
                rcases List.mem_cons.1 ha with rfl | ha
                · exact e3
                · exact hr4 a ha
            · simp at h

theorem readL_err {α : Type} {one : Nat → α × Int × Int} {s : List UInt8} : ∀ (k p : Nat) (acc : List α), s.length - p ≤ k → p ≤ s.length → (readL one s p acc).2.2 ≠ 0 → (readL one s p acc).1 = [] ∧ (readL one s p acc).2.1 = 0 := by
  intro k
  induction k with
  | zero =>
    intro p acc hk hp h
    rw [readL, if_pos (by omega)]
    simp
  | succ k ih =>
    intro p acc hk hp h
    rw [readL] at h ⊢
    split
    · simp
    · split
      · rename_i h1 h2; rw [if_neg h1, if_pos h2] at h; simp at h
      · split
        · simp
        · split
          · simp
          · split
            · rename_i h1 h2 h3 h4 h5
              rw [if_neg h1, if_neg h2, if_neg h3, if_neg h4, dif_pos h5] at h
              exact ih _ _ (by omega) (by omega) h
            · simp

theorem readR_err {α : Type} {one : Nat → α × Int × Int} {s : List UInt8} {i : Int} (h : (readR one s i).2.2 ≠ 0) : (readR one s i).1 = [] ∧ (readR one s i).2.1 = 0 := by
  unfold readR at h ⊢
  split
  · simp
  · split
    · simp
    · split
      · simp
      · rename_i h1 h2 h3
        rw [if_neg h1, if_neg h2, if_neg h3] at h
        exact readL_err _ _ _ (Nat.le_refl _) (by omega) h

theorem list_once {α : Type} {f : α → List UInt8} {one : Nat → α × Int × Int} {s : List UInt8} {pr : α → Prop}
    (hone : ∀ (p : Nat) (a : α) (nx : Int), p ≤ s.length → one p = (a, nx, 0) → s.drop p = f a ++ s.drop nx.toNat ∧ nx = ((p + (f a).length : Nat) : Int) ∧ pr a)
    {p : Nat} {l : List α} {nx : Int} (hp : p ≤ s.length) (h : readR one s p = (l, nx, 0)) :
    s.drop p = laidAll f l ++ s.drop nx.toNat ∧ nx = ((p + (laidAll f l).length : Nat) : Int) ∧ (∀ a ∈ l, pr a) ∧ ¬ 512 < l.length := by
  unfold readR at h
  split at h
  · simp at h
  · split at h
    · simp at h
    · split at h
      · simp at h
      · rename_i h1 h2 h40
        rw [Int.toNat_natCast] at h h2 h40
        have hlt : p < s.length := by omega
        have hc := bAt_some (c := 40) hlt (Classical.not_not.1 h40)
        obtain ⟨r, hr1, hr2, hr3, hr4, hr5⟩ := readL_once (f := f) hone _ (p + 1) [] l nx (Nat.le_refl _) (by omega) (by simp) h
        rw [List.nil_append] at hr1; subst hr1
        refine ⟨?_, ?_, hr4, by omega⟩
        · have : s.drop p = 40 :: s.drop (p + 1) := by
            rw [List.drop_eq_getElem_cons hlt]; congr 1
            rw [List.getElem?_eq_getElem hlt] at hc; exact Option.some.inj hc
          rw [this, hr2]; simp [laidAll, part]
        · rw [hr3]; simp [laidAll, part]; omega

/-- The bytes between two places. -/
theorem between {s x : List UInt8} {p : Nat} {nx : Int} (h : s.drop p = x ++ s.drop nx.toNat) (hn : nx = ((p + x.length : Nat) : Int)) (hp : p ≤ s.length) : p ≤ nx.toNat ∧ nx.toNat ≤ s.length ∧ (s.take nx.toNat).drop p = x := by
  have h2 : nx.toNat = p + x.length := by rw [hn, Int.toNat_natCast]
  have hlen := congrArg List.length h
  rw [h2] at h hlen ⊢
  simp only [List.length_append, List.length_drop] at hlen
  refine ⟨by omega, by omega, ?_⟩
  rw [List.drop_take, show p + x.length - p = x.length by omega, h, List.take_left]

end Go.Aff.L01

/- Layer 25, plainly: states, their bytes, what bytes are. -/
namespace Go.Aff.L25
open Go.Aff Go.Aff.L01 Classical
set_option linter.unusedVariables false
set_option linter.unusedSimpArgs false

/-- Numbers that may be, and rise. -/
def Rises (l : List Int) : Prop := ∀ (i : Nat) n, l[i]? = some n → 0 ≤ n ∧ n ≤ 1099511627776 ∧ ∀ m, 0 < i → l[i - 1]? = some m → m < n
def RisesTo (l : List Int) (k : Nat) : Prop := ∀ (i : Nat) n, i < k → l[i]? = some n → 0 ≤ n ∧ n ≤ 1099511627776 ∧ ∀ m, 0 < i → l[i - 1]? = some m → m < n
theorem risesTo_zero {l : List Int} : RisesTo l 0 := fun i n h => by omega
theorem risesTo_all {l : List Int} (h : RisesTo l l.length) : Rises l := fun i n hn => h i n (List.getElem?_eq_some_iff.1 hn).1 hn
theorem risesTo_step {l : List Int} {k : Nat} {n : Int} (h : RisesTo l k) (hn : l[k]? = some n) (h0 : 0 ≤ n) (h1 : n ≤ 1099511627776) (h2 : ∀ m, 0 < k → l[k - 1]? = some m → m < n) : RisesTo l (k + 1) := by
  intro i x hi hx
  by_cases e : i = k
  · subst e; rw [hn] at hx; cases hx; exact ⟨h0, h1, h2⟩
  · exact h i x (by omega) hx

structure St where
  w : List UInt8
  p : List UInt8
  b : List UInt8
  puts : List (Int × List UInt8)
  prunes : List Int

def St.zero : St := ⟨[], [], [], [], []⟩
def St.Right (s : St) : Prop := s.w.length ≤ 16384 ∧ s.p.length ≤ 16384 ∧ s.b.length ≤ 16384 ∧ (∀ x ∈ s.puts, x.2.length ≤ 4096) ∧ s.puts.length ≤ 256 ∧ Rises (s.puts.map (·.1)) ∧ s.prunes.length ≤ 64 ∧ Rises s.prunes
def St.laid (s : St) : List UInt8 := textS s.w ++ (textS s.p ++ (textS s.b ++ (laidAll numS (s.puts.map (·.1)) ++ (laidAll textS (s.puts.map (·.2)) ++ laidAll numS s.prunes))))

/-- One thing read, then on. -/
def thenP {α : Type} (r : α × Int × Int) (k : α → Int → St × Int) : St × Int := if r.2.2 ≠ 0 then (.zero, r.2.2) else k r.1 r.2.1
theorem thenP_ok {α : Type} {a : α} {n : Int} {k : α → Int → St × Int} : thenP (a, n, 0) k = k a n := by simp [thenP]
theorem thenP_bad {α : Type} {r : α × Int × Int} {k : α → Int → St × Int} (h : r.2.2 ≠ 0) : thenP r k = (.zero, r.2.2) := by simp [thenP, h]
/-- What bytes are, step by step. -/
noncomputable def getS (s : List UInt8) : St × Int :=
  thenP (textR s 0) fun w a1 => thenP (textR s a1) fun p a2 => thenP (textR s a2) fun b a3 =>
  thenP (readR (numP s) s a3) fun n a4 => thenP (readR (textP s) s a4) fun t a5 => thenP (readR (numP s) s a5) fun l a6 =>
  if n.length ≠ t.length ∨ a6 ≠ s.length then (.zero, 6) else if (St.mk w p b (n.zip t) l).Right then (.mk w p b (n.zip t) l, 0) else (.zero, 6)

theorem text_at {S x y t : List UInt8} (hS : S = x ++ (textS t ++ y)) (ht : ¬ 16384 < t.length) : textR S (x.length : Nat) = (t, (((x ++ textS t).length : Nat) : Int), 0) := by
  subst hS
  rw [textR_nat (by simp), text_back ht, List.length_append]
theorem ints_at {S x y : List UInt8} {l : List Int} (hS : S = x ++ (laidAll numS l ++ y)) (h : ∀ n ∈ l, -9223372036854775808 ≤ n ∧ n ≤ 9223372036854775807) (hl : ¬ 512 < l.length) :
    readR (numP S) S (x.length : Nat) = (l, (((x ++ laidAll numS l).length : Nat) : Int), 0) := by
  subst hS
  rw [ints_back h hl, List.length_append]
theorem texts_at {S x y : List UInt8} {l : List (List UInt8)} (hS : S = x ++ (laidAll textS l ++ y)) (h : ∀ n ∈ l, ¬ 16384 < n.length) (hl : ¬ 512 < l.length) :
    readR (textP S) S (x.length : Nat) = (l, (((x ++ laidAll textS l).length : Nat) : Int), 0) := by
  subst hS
  rw [texts_back h hl, List.length_append]
theorem rises_range {l : List Int} (h : Rises l) : ∀ n ∈ l, -9223372036854775808 ≤ n ∧ n ≤ 9223372036854775807 := by
  intro n hn
  obtain ⟨i, hi⟩ := List.mem_iff_getElem?.1 hn
  have := h i n hi
  omega
theorem zip_maps : ∀ (l : List (Int × List UInt8)), (l.map (·.1)).zip (l.map (·.2)) = l
  | [] => rfl
  | x :: r => by simp [zip_maps r]

theorem getS_laid {s : St} (h : s.Right) : getS s.laid = (s, 0) := by
  obtain ⟨h1, h2, h3, h4, h5, h6, h7, h8⟩ := h
  generalize hS : s.laid = S
  unfold St.laid at hS
  have e1 : textR S 0 = (s.w, (((textS s.w).length : Nat) : Int), 0) := text_at (x := []) hS.symm (by omega)
  have e2 := text_at (S := S) (x := textS s.w) (t := s.p) hS.symm (by omega)
  have e3 := text_at (S := S) (x := textS s.w ++ textS s.p) (t := s.b) (by rw [← hS, List.append_assoc]) (by omega)
  have e4 := ints_at (S := S) (x := textS s.w ++ textS s.p ++ textS s.b) (l := s.puts.map (·.1)) (by rw [← hS, List.append_assoc, List.append_assoc]) (rises_range h6) (by simp; omega)
  have e5 := texts_at (S := S) (x := textS s.w ++ textS s.p ++ textS s.b ++ laidAll numS (s.puts.map (·.1))) (l := s.puts.map (·.2)) (by rw [← hS, List.append_assoc, List.append_assoc, List.append_assoc]) (by
    intro t ht
    obtain ⟨x, hx, rfl⟩ := List.mem_map.1 ht
    have := h4 x hx; omega) (by simp; omega)
  have e6 := ints_at (S := S) (x := textS s.w ++ textS s.p ++ textS s.b ++ laidAll numS (s.puts.map (·.1)) ++ laidAll textS (s.puts.map (·.2))) (y := []) (l := s.prunes) (by rw [← hS, List.append_nil]; simp only [List.append_assoc]) (rises_range h8) (by omega)
  unfold getS
  rw [e1, thenP_ok, e2, thenP_ok, e3, thenP_ok, e4, thenP_ok, e5, thenP_ok, e6, thenP_ok, zip_maps, if_neg, if_pos ⟨h1, h2, h3, h4, h5, h6, h7, h8⟩]
  · rintro (h | h)
    · simp at h
    · apply h
      rw [← hS]; simp only [List.append_assoc]
theorem laid_inj {s t : St} (hs : s.Right) (ht : t.Right) (h : s.laid = t.laid) : s = t := by
  have := getS_laid hs
  rw [h, getS_laid ht] at this
  exact (congrArg Prod.fst this).symm

theorem thenP_inv {α : Type} {r : α × Int × Int} {k : α → Int → St × Int} {st : St} (h : thenP r k = (st, 0)) : r.2.2 = 0 ∧ k r.1 r.2.1 = (st, 0) := by
  unfold thenP at h
  split at h
  · rename_i h0; exact absurd (congrArg Prod.snd h) h0
  · rename_i h0; exact ⟨Classical.not_not.1 h0, h⟩
theorem num_one {s : List UInt8} : ∀ (p : Nat) (a : Int) (nx : Int), p ≤ s.length → numP s p = (a, nx, 0) → s.drop p = numS a ++ s.drop nx.toNat ∧ nx = ((p + (numS a).length : Nat) : Int) ∧ True :=
  fun p a nx hp h => by obtain ⟨h1, h2⟩ := num_once hp h; exact ⟨h1, h2.1, trivial⟩
theorem text_one {s : List UInt8} : ∀ (p : Nat) (a : List UInt8) (nx : Int), p ≤ s.length → textP s p = (a, nx, 0) → s.drop p = textS a ++ s.drop nx.toNat ∧ nx = ((p + (textS a).length : Nat) : Int) ∧ True :=
  fun p a nx hp h => by obtain ⟨h1, h2, _⟩ := text_once hp h; exact ⟨h1, h2, trivial⟩

theorem text_cut {s t : List UInt8} {p : Nat} {nx : Int} (hp : p ≤ s.length) (h : textR s p = (t, nx, 0)) : ∃ q : Nat, nx = q ∧ q ≤ s.length ∧ s.drop p = textS t ++ s.drop q := by
  rw [textR_nat hp] at h
  obtain ⟨h1, h2, _⟩ := text_once hp h
  obtain ⟨h3, h4, _⟩ := between h1 h2 hp
  refine ⟨nx.toNat, by omega, h4, h1⟩
theorem list_cut {α : Type} {f : α → List UInt8} {one : Nat → α × Int × Int} {s : List UInt8}
    (hone : ∀ (p : Nat) (a : α) (nx : Int), p ≤ s.length → one p = (a, nx, 0) → s.drop p = f a ++ s.drop nx.toNat ∧ nx = ((p + (f a).length : Nat) : Int) ∧ True)
    {p : Nat} {l : List α} {nx : Int} (hp : p ≤ s.length) (h : readR one s p = (l, nx, 0)) : ∃ q : Nat, nx = q ∧ q ≤ s.length ∧ s.drop p = laidAll f l ++ s.drop q := by
  obtain ⟨h1, h2, _⟩ := list_once (pr := fun _ => True) hone hp h
  obtain ⟨h3, h4, _⟩ := between h1 h2 hp
  exact ⟨nx.toNat, by omega, h4, h1⟩
theorem trip {α : Type} {r : α × Int × Int} (h : r.2.2 = 0) : r = (r.1, r.2.1, 0) := by obtain ⟨a, b, c⟩ := r; cases h; rfl

theorem laid_getS {s : List UInt8} {st : St} (h : getS s = (st, 0)) : st.Right ∧ st.laid = s := by
  unfold getS at h
  obtain ⟨z1, h⟩ := thenP_inv h
  obtain ⟨q1, n1, l1, d1⟩ := text_cut (p := 0) (Nat.zero_le _) (trip z1)
  have n1 : (textR s 0).2.1 = ((q1 : Nat) : Int) := n1
  simp only [n1] at h
  obtain ⟨z2, h⟩ := thenP_inv h
  obtain ⟨q2, n2, l2, d2⟩ := text_cut l1 (trip z2)
  simp only [n2] at h
  obtain ⟨z3, h⟩ := thenP_inv h
  obtain ⟨q3, n3, l3, d3⟩ := text_cut l2 (trip z3)
  simp only [n3] at h
  obtain ⟨z4, h⟩ := thenP_inv h
  obtain ⟨q4, n4, l4, d4⟩ := list_cut num_one l3 (trip z4)
  simp only [n4] at h
  obtain ⟨z5, h⟩ := thenP_inv h
  obtain ⟨q5, n5, l5, d5⟩ := list_cut text_one l4 (trip z5)
  simp only [n5] at h
  obtain ⟨z6, h⟩ := thenP_inv h
  obtain ⟨q6, n6, l6, d6⟩ := list_cut num_one l5 (trip z6)
  simp only [n6] at h
  split at h
  · simp at h
  · rename_i hne
    split at h
    · rename_i hR
      simp only [Prod.mk.injEq, and_true] at h
      subst h
      refine ⟨hR, ?_⟩
      have hl : (readR (numP s) s (q3 : Nat)).1.length = (readR (textP s) s (q4 : Nat)).1.length := by
        apply Classical.byContradiction; intro hc; exact hne (.inl hc)
      have hq : q6 = s.length := by
        apply Classical.byContradiction; intro hc; exact hne (.inr (by omega))
      have hz1 : ((readR (numP s) s (q3 : Nat)).1.zip (readR (textP s) s (q4 : Nat)).1).map (·.1) = (readR (numP s) s (q3 : Nat)).1 := List.map_fst_zip (by omega)
      have hz2 : ((readR (numP s) s (q3 : Nat)).1.zip (readR (textP s) s (q4 : Nat)).1).map (·.2) = (readR (textP s) s (q4 : Nat)).1 := List.map_snd_zip (by omega)
      unfold St.laid
      simp only [hz1, hz2]
      rw [hq, List.drop_length, List.append_nil] at d6
      rw [← d6, ← d5, ← d4, ← d3, ← d2]
      have d1' : s = _ := d1
      exact d1'.symm
    · simp at h

/-! ### Step by step, with an error that stays -/
def rd {α : Type} (z : α) (r : Int → α × Int × Int) (a e : Int) : α × Int × Int := if e ≠ 0 then (z, a, e) else r a
theorem rd_ok {α : Type} {z : α} {r : Int → α × Int × Int} {a : Int} : rd z r a 0 = r a := by simp [rd]
theorem rd_bad {α : Type} {z : α} {r : Int → α × Int × Int} {a e : Int} (h : e ≠ 0) : rd z r a e = (z, a, e) := by simp [rd, h]
noncomputable def getR (s : List UInt8) (w p b : List UInt8) (x4 : List Int × Int × Int) (x5 : List (List UInt8) × Int × Int) (x6 : List Int × Int × Int) : St × Int :=
  if x6.2.2 ≠ 0 then (.zero, x6.2.2) else if x4.1.length ≠ x5.1.length ∨ x6.2.1 ≠ s.length then (.zero, 6) else if (St.mk w p b (x4.1.zip x5.1) x6.1).Right then (.mk w p b (x4.1.zip x5.1) x6.1, 0) else (.zero, 6)
theorem getS_run {s : List UInt8} {x1 x2 x3 : List UInt8 × Int × Int} {x4 : List Int × Int × Int} {x5 : List (List UInt8) × Int × Int} {x6 : List Int × Int × Int}
    (h1 : x1 = rd [] (textR s) 0 0) (h2 : x2 = rd [] (textR s) x1.2.1 x1.2.2) (h3 : x3 = rd [] (textR s) x2.2.1 x2.2.2) (h4 : x4 = rd [] (readR (numP s) s) x3.2.1 x3.2.2) (h5 : x5 = rd [] (readR (textP s) s) x4.2.1 x4.2.2) (h6 : x6 = rd [] (readR (numP s) s) x5.2.1 x5.2.2) :
    getS s = getR s x1.1 x2.1 x3.1 x4 x5 x6 := by
  rw [rd_ok] at h1
  unfold getS
  rw [← h1]
  by_cases z1 : x1.2.2 = 0
  · rw [z1, rd_ok] at h2
    rw [trip z1, thenP_ok]
    try dsimp only
    rw [← h2]
    by_cases z2 : x2.2.2 = 0
    · rw [z2, rd_ok] at h3
      rw [trip z2, thenP_ok]
      try dsimp only
      rw [← h3]
      by_cases z3 : x3.2.2 = 0
      · rw [z3, rd_ok] at h4
        rw [trip z3, thenP_ok]
        try dsimp only
        rw [← h4]
        by_cases z4 : x4.2.2 = 0
        · rw [z4, rd_ok] at h5
          rw [trip z4, thenP_ok]
          try dsimp only
          rw [← h5]
          by_cases z5 : x5.2.2 = 0
          · rw [z5, rd_ok] at h6
            rw [trip z5, thenP_ok]
            try dsimp only
            rw [← h6]
            by_cases z6 : x6.2.2 = 0
            · rw [trip z6, thenP_ok, getR]
              try dsimp only
              rw [if_neg (c := (0 : Int) ≠ 0) (by simp)]
            · rw [thenP_bad z6, getR, if_pos z6]
          · rw [rd_bad z5] at h6
            rw [thenP_bad z5, getR, h6, if_pos z5]
        · rw [rd_bad z4] at h5
          rw [h5, rd_bad z4] at h6
          rw [thenP_bad z4, getR, h6, if_pos z4]
      · rw [rd_bad z3] at h4
        rw [h4, rd_bad z3] at h5
        rw [h5, rd_bad z3] at h6
        rw [thenP_bad z3, getR, h6, if_pos z3]
    · rw [rd_bad z2] at h3
      rw [h3, rd_bad z2] at h4
      rw [h4, rd_bad z2] at h5
      rw [h5, rd_bad z2] at h6
      rw [thenP_bad z2, getR, h6, if_pos z2]
  · rw [rd_bad z1] at h2
    rw [h2, rd_bad z1] at h3
    rw [h3, rd_bad z1] at h4
    rw [h4, rd_bad z1] at h5
    rw [h5, rd_bad z1] at h6
    rw [thenP_bad z1, getR, h6, if_pos z1]
theorem textR_range {s : List UInt8} {a : Int} : 0 ≤ (textR s a).2.1 ∧ (textR s a).2.1 ≤ s.length := by
  unfold textR
  split
  · exact ⟨by simp, by simp⟩
  · rename_i h
    have hq : a.toNat ≤ s.length := by omega
    by_cases z : (textP s a.toNat).2.2 = 0
    · have := textP_prog hq z; omega
    · unfold textP at z ⊢
      split
      · exact ⟨by simp, by simp⟩
      · split
        · exact ⟨by simp, by simp⟩
        · split
          · exact ⟨by simp, by simp⟩
          · rename_i h1 h2 h3; rw [if_neg h1, if_neg h2, if_neg h3] at z; exact absurd rfl z
theorem readR_range {α : Type} {f : α → List UInt8} {one : Nat → α × Int × Int} {s : List UInt8} {a : Int}
    (hone : ∀ (p : Nat) (a : α) (nx : Int), p ≤ s.length → one p = (a, nx, 0) → s.drop p = f a ++ s.drop nx.toNat ∧ nx = ((p + (f a).length : Nat) : Int) ∧ True) :
    0 ≤ (readR one s a).2.1 ∧ (readR one s a).2.1 ≤ s.length ∧ ((readR one s a).2.2 = 0 → (readR one s a).1.length ≤ 512) ∧ ((readR one s a).2.2 ≠ 0 → (readR one s a).1 = []) := by
  by_cases z : (readR one s a).2.2 = 0
  · have ha : ¬ (a < 0 ∨ (s.length : Int) < a) := by
      intro h; unfold readR at z; rw [if_pos h] at z; cases z
    have hq : a.toNat ≤ s.length := by omega
    have he : readR one s a = readR one s (a.toNat : Nat) := by rw [show ((a.toNat : Nat) : Int) = a by omega]
    rw [he] at z ⊢
    obtain ⟨q, h1, h2, _⟩ := list_cut hone hq (trip z)
    obtain ⟨_, _, _, h3⟩ := list_once (pr := fun _ => True) hone hq (trip z)
    exact ⟨by omega, by omega, fun _ => by omega, fun h => absurd z h⟩
  · obtain ⟨h1, h2⟩ := readR_err z
    exact ⟨by omega, by omega, fun h => absurd h z, fun _ => h1⟩
theorem rd_range {α : Type} {z : α} {r : Int → α × Int × Int} {a e : Int} {n : Nat} (ha : 0 ≤ a ∧ a ≤ n) (hr : 0 ≤ (r a).2.1 ∧ (r a).2.1 ≤ n) : 0 ≤ (rd z r a e).2.1 ∧ (rd z r a e).2.1 ≤ n := by
  unfold rd; split
  · exact ha
  · exact hr
end Go.Aff.L25

