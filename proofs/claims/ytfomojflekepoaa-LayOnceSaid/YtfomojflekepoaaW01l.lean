/- Layer 1, walked: LayBack. -/
import Derived.Test.YtfomojflekepoaaW01f
import Derived.Test.YtfomojflekepoaaW01g
import Derived.Test.YtfomojflekepoaaW01k
import Derived.Test.YtfomojflekepoaaL01d
namespace Go.Aff.L01
open Go.Proofs Go.Aff
set_option linter.unusedVariables false
set_option linter.unusedSimpArgs false
theorem p49_0 {ps : List AV} {x : AV} : partIs Try.prog 49 ps 0 x = (0 = AV.sizes (ps.take 0) ∧ fits Try.prog 9 x) := partIs_of (by kernel_rfl)
theorem p49_1 {ps : List AV} {x : AV} : partIs Try.prog 49 ps 1 x = (1 = AV.sizes (ps.take 1) ∧ fits Try.prog 9 x) := partIs_of (by kernel_rfl)
theorem p49_2 {ps : List AV} {x : AV} : partIs Try.prog 49 ps 2 x = (2 = AV.sizes (ps.take 2) ∧ fits Try.prog 3 x) := partIs_of (by kernel_rfl)
theorem p49_3 {ps : List AV} {x : AV} : partIs Try.prog 49 ps 3 x = (3 = AV.sizes (ps.take 3) ∧ fits Try.prog 9 x) := partIs_of (by kernel_rfl)
theorem p49_4 {ps : List AV} {x : AV} : partIs Try.prog 49 ps 4 x = (4 = AV.sizes (ps.take 4) ∧ fits Try.prog 25 x) := partIs_of (by kernel_rfl)
theorem p49_5 {ps : List AV} {x : AV} : partIs Try.prog 49 ps 5 x = (5 = AV.sizes (ps.take 5) ∧ fits Try.prog 26 x) := partIs_of (by kernel_rfl)
theorem fits25 {v : AV} : fits Try.prog 25 v = (v.isAgg = false ∧ v.size = 1) := fits_leaf (by kernel_rfl) (by kernel_rfl)
theorem fits26 {v : AV} : fits Try.prog 26 v = (v.isAgg = false ∧ v.size = 1) := fits_leaf (by kernel_rfl) (by kernel_rfl)
attribute [local go_sem] Try.underlying3 Try.underlying4 Try.underlying5 Try.underlying9 Try.underlying51 Try.underlying53 Try.underlying27 Try.underlying25 Try.underlying26 Try.underlying49 fits3 fits9 fits25 fits26 p49_0 p49_1 p49_2 p49_3 p49_4 p49_5

theorem text_back {x y t : List UInt8} (ht : ¬ 16384 < t.length) : textP (x ++ (textS t ++ y)) x.length = (t, ((x.length + (textS t).length : Nat) : Int), 0) := by
  have c58 : isD 58 = false := by decide
  have e : x ++ (textS t ++ y) = x ++ (dg t.length ++ 58 :: (t ++ y)) := by simp [textS]
  have hd := dend_laid (x := x) (y := t ++ y) (c := 58) t.length c58
  have hg := digs_laid (x := x) (y := t ++ y) (c := 58) t.length c58
  have hsh := shape_laid (x := x) (y := t ++ y) (c := 58) t.length c58
  rw [show (58 : UInt8).toNat = 58 from rfl] at hsh
  rw [textP, e, hd, hg, val_dg, if_neg (not_not_intro hsh), if_neg ht, if_neg (by simp; omega)]
  have e2 : x ++ (dg t.length ++ 58 :: (t ++ y)) = (x ++ dg t.length ++ [58]) ++ (t ++ y) := by simp
  have hl : (x ++ dg t.length ++ [(58 : UInt8)]).length = x.length + (dg t.length).length + 1 := by simp; omega
  rw [e2]
  simp only [Prod.mk.injEq, and_true]
  constructor
  · rw [show x.length + (dg t.length).length + 1 + t.length = (x ++ dg t.length ++ [(58 : UInt8)] ++ t).length by simp; omega, ← List.append_assoc, List.take_left, ← hl, List.drop_left]
  · simp [textS]; omega

theorem readL_back {α : Type} {f : α → List UInt8} {one : Nat → α × Int × Int} {S y : List UInt8} {p : α → Prop}
    (hone : ∀ (u v : List UInt8) (a : α), p a → S = u ++ (f a ++ v) → (∃ b r, f a = b :: r ∧ b.toNat ≠ 41) ∧ one u.length = (a, ((u.length + (f a).length : Nat) : Int), 0)) :
    ∀ (l : List α) (acc : List α) (u : List UInt8), (∀ a ∈ l, p a) → S = u ++ (l.flatMap f ++ 41 :: y) → acc.length + l.length ≤ 512 → readL one S u.length acc = (acc ++ l, ((u.length + (l.flatMap f).length + 1 : Nat) : Int), 0)
  | [], acc, u, hp, hS, hl => by
    rw [readL, if_neg (by rw [hS]; simp), if_pos (by rw [hS]; simp only [List.flatMap_nil, List.nil_append]; rw [bAt_left]; rfl)]
    simp
  | a :: r, acc, u, hp, hS, hl => by
    have hS2 : S = u ++ (f a ++ (r.flatMap f ++ 41 :: y)) := by rw [hS]; simp
    obtain ⟨⟨b, t, hb, h41⟩, h1⟩ := hone u _ a (hp a (by simp)) hS2
    have hbt : bAt S u.length = b.toNat := by rw [hS2, hb, List.cons_append, bAt_left]
    have hlen : u.length + (f a).length ≤ S.length := by rw [hS2]; simp
    have hpos : 0 < (f a).length := by rw [hb]; simp
    simp only [List.length_cons] at hl
    rw [readL, if_neg (by rw [hS2, hb]; simp), if_neg (by rw [hbt]; exact h41), if_neg (by omega), h1]
    dsimp only
    rw [if_neg (by simp), dif_pos ⟨by omega, by omega⟩]
    have e : (((u.length + (f a).length : Nat) : Int)).toNat = (u ++ f a).length := by rw [Int.toNat_natCast, List.length_append]
    rw [e, readL_back (y := y) hone r (acc ++ [a]) (u ++ f a) (fun x hx => hp x (by simp [hx])) (by rw [hS2]; simp) (by simp; omega)]
    simp; omega

theorem list_back {α : Type} {f : α → List UInt8} {one : List UInt8 → Nat → α × Int × Int} {x y : List UInt8} {l : List α} {p : α → Prop} (hp : ∀ a ∈ l, p a) (hl : ¬ 512 < l.length)
    (hone : ∀ (u v : List UInt8) (a : α), p a → (∃ b r, f a = b :: r ∧ b.toNat ≠ 41) ∧ one (u ++ (f a ++ v)) u.length = (a, ((u.length + (f a).length : Nat) : Int), 0)) :
    readR (one (x ++ (laidAll f l ++ y))) (x ++ (laidAll f l ++ y)) x.length = (l, ((x.length + (laidAll f l).length : Nat) : Int), 0) := by
  have e : x ++ (laidAll f l ++ y) = (x ++ [40]) ++ (l.flatMap f ++ 41 :: y) := by simp [laidAll, part]
  rw [readR, if_neg (by simp; omega), if_neg (by simp [laidAll, part]), if_neg (by
    rw [show x ++ (laidAll f l ++ y) = x ++ 40 :: (l.flatMap f ++ 41 :: y) by simp [laidAll, part]]
    simp only [Int.toNat_natCast]; rw [bAt_left]; simp)]
  have h := readL_back (f := f) (one := one (x ++ (laidAll f l ++ y))) (S := x ++ (laidAll f l ++ y)) (y := y) (p := p) (fun u v a ha hS => by rw [hS]; exact hone u v a ha) l [] (x ++ [40]) hp e (by simp; omega)
  rw [show (x ++ [(40 : UInt8)]).length = (x.length : Int).toNat + 1 by simp] at h
  rw [h]
  simp [laidAll, part]; omega

theorem numS_first (n : Int) : ∃ b r, numS n = b :: r ∧ b.toNat ≠ 41 := by
  unfold numS
  split
  · exact ⟨45, _, rfl, by decide⟩
  · obtain ⟨b, r, hb⟩ := List.exists_cons_of_ne_nil (dg_ne (n := n.natAbs))
    have := dg_isD n.natAbs b (by rw [hb]; simp)
    simp [isD] at this
    exact ⟨b, r ++ [59], by rw [hb]; rfl, by omega⟩
theorem textS_first (t : List UInt8) : ∃ b r, textS t = b :: r ∧ b.toNat ≠ 41 := by
  unfold textS
  obtain ⟨b, r, hb⟩ := List.exists_cons_of_ne_nil (dg_ne (n := t.length))
  have := dg_isD t.length b (by rw [hb]; simp)
  simp [isD] at this
  exact ⟨b, r ++ [58] ++ t, by rw [hb]; rfl, by omega⟩

theorem ints_back {x y : List UInt8} {l : List Int} (h : ∀ n ∈ l, -9223372036854775808 ≤ n ∧ n ≤ 9223372036854775807) (hl : ¬ 512 < l.length) :
    readR (numP (x ++ (laidAll numS l ++ y))) (x ++ (laidAll numS l ++ y)) x.length = (l, ((x.length + (laidAll numS l).length : Nat) : Int), 0) :=
  list_back (p := fun n => -9223372036854775808 ≤ n ∧ n ≤ 9223372036854775807) h hl fun u v a ha => ⟨numS_first a, num_back ha.1 ha.2⟩
theorem texts_back {x y : List UInt8} {l : List (List UInt8)} (h : ∀ t ∈ l, ¬ 16384 < t.length) (hl : ¬ 512 < l.length) :
    readR (textP (x ++ (laidAll textS l ++ y))) (x ++ (laidAll textS l ++ y)) x.length = (l, ((x.length + (laidAll textS l).length : Nat) : Int), 0) :=
  list_back (p := fun t => ¬ 16384 < t.length) h hl fun u v a ha => ⟨textS_first a, text_back ha⟩

end Go.Aff.L01
