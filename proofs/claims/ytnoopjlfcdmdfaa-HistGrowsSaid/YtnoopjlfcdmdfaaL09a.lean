/- Layer 9, plainly: how many, where, up to where; beginnings. -/
import Derived.Test.YtnoopjlfcdmdfaaAffZb
namespace Go.Aff.L09
set_option linter.unusedVariables false
set_option linter.unusedSimpArgs false

def isC (c : Int) (b : UInt8) : Bool := decide ((b.toNat : Int) = c)
def cnt (c : Int) (h : List UInt8) : Nat := h.countP (isC c)
/-- The place of a client's operation: from place i on, k of it before. -/
def placeL (c n : Int) : List UInt8 → Nat → Nat → Int
  | [], _, _ => -1
  | b :: r, i, k => if isC c b = true then (if ((k + 1 : Nat) : Int) = n then (i : Int) else placeL c n r (i + 1) (k + 1)) else placeL c n r (i + 1) k
def place (h : List UInt8) (c n : Int) : Int := placeL c n h 0 0
/-- Up to a client's last operation. -/
def uptoL (c : Int) (h : List UInt8) : Nat → List UInt8
  | 0 => []
  | i + 1 => match h[i]? with
    | some b => if isC c b = true then h.take (i + 1) else uptoL c h i
    | none => uptoL c h i
def upto (h : List UInt8) (c : Int) : List UInt8 := uptoL c h h.length
def right (h : List UInt8) (n : Int) : Bool := h.all (fun b => decide ((b.toNat : Int) < n)) && decide (h.length ≤ 512 ∧ 1 ≤ n ∧ n ≤ 256)
def fit (a b : List UInt8) : Bool := decide (b <+: a ∨ a <+: b)
def longer (a b : List UInt8) : List UInt8 := if a <+: b then b else a

theorem cnt_le {c : Int} {h : List UInt8} : cnt c h ≤ h.length := List.countP_le_length
theorem cnt_nil {c : Int} : cnt c [] = 0 := rfl
theorem cnt_append {c : Int} {a b : List UInt8} : cnt c (a ++ b) = cnt c a + cnt c b := List.countP_append
theorem cnt_take {c : Int} {h : List UInt8} {i : Nat} {b : UInt8} (hb : h[i]? = some b) : cnt c (h.take (i + 1)) = cnt c (h.take i) + if isC c b = true then 1 else 0 := by
  rw [List.take_add_one, hb, cnt_append]
  simp only [Option.toList_some, cnt, List.countP_cons, List.countP_nil, Nat.zero_add]
theorem cnt_take_le {c : Int} {h : List UInt8} {i : Nat} : cnt c (h.take i) ≤ i := by
  have := cnt_le (c := c) (h := h.take i); simp at this; omega
theorem isC_self {b : UInt8} : isC (b.toNat : Int) b = true := by simp [isC]
theorem isC_other {a b : UInt8} (h : a ≠ b) : isC (a.toNat : Int) b = false := by
  simp only [isC, decide_eq_false_iff_not]
  intro e
  apply h
  have : b.toNat = a.toNat := by omega
  exact (UInt8.toNat_inj.1 this).symm
theorem placeL_step {c n : Int} {h : List UInt8} {i : Nat} {b : UInt8} (hb : h[i]? = some b) :
    placeL c n (h.drop i) i (cnt c (h.take i)) = if isC c b = true ∧ ((cnt c (h.take (i + 1)) : Nat) : Int) = n then (i : Int) else placeL c n (h.drop (i + 1)) (i + 1) (cnt c (h.take (i + 1))) := by
  rw [cnt_take hb]
  have hlt := (List.getElem?_eq_some_iff.1 hb).1
  have hd : h.drop i = b :: h.drop (i + 1) := by
    rw [List.drop_eq_getElem_cons hlt]; congr 1; exact (List.getElem?_eq_some_iff.1 hb).2
  rw [hd]
  simp only [placeL]
  cases hc : isC c b with
  | true => simp
  | false => simp
theorem placeL_end {c n : Int} {h : List UInt8} {k : Nat} : placeL c n (h.drop h.length) h.length k = -1 := by simp [placeL]
theorem placeL_range {c n : Int} : ∀ {r : List UInt8} {i k : Nat}, placeL c n r i k = -1 ∨ ((i : Int) ≤ placeL c n r i k ∧ placeL c n r i k < i + r.length)
  | [], i, k => .inl rfl
  | b :: r, i, k => by
    simp only [placeL]
    have h1 := placeL_range (c := c) (n := n) (r := r) (i := i + 1) (k := k + 1)
    have h2 := placeL_range (c := c) (n := n) (r := r) (i := i + 1) (k := k)
    split
    · split
      · right; simp; omega
      · rcases h1 with h | h
        · exact .inl h
        · right; simp only [List.length_cons]; omega
    · rcases h2 with h | h
      · exact .inl h
      · right; simp only [List.length_cons]; omega
end Go.Aff.L09
