/- Layer 1: digits that are read. Plain. -/
import Derived.Test.YtfomojflekepoaaL01a
namespace Go.Aff.L01
open Go.Aff

def isD (b : UInt8) : Bool := decide (48 ≤ b.toNat) && decide (b.toNat ≤ 57)
def val (l : List UInt8) : Nat := l.foldl (fun a b => a * 10 + (b.toNat - 48)) 0
def digs (s : List UInt8) (p : Nat) : List UInt8 := (s.drop p).takeWhile isD
def dend (s : List UInt8) (p : Nat) : Nat := p + (digs s p).length

theorem val_snoc (l : List UInt8) (b : UInt8) : val (l ++ [b]) = val l * 10 + (b.toNat - 48) := by simp [val, List.foldl_append]
theorem val_take_succ {l : List UInt8} {k : Nat} {b : UInt8} (h : l[k]? = some b) : val (l.take (k + 1)) = val (l.take k) * 10 + (b.toNat - 48) := by
  rw [← val_snoc, List.take_add_one, h]; rfl

theorem takeWhile_at {p : UInt8 → Bool} : ∀ (l : List UInt8) (k : Nat), k ≤ (l.takeWhile p).length → (k < (l.takeWhile p).length ↔ ∃ b, l[k]? = some b ∧ p b = true)
  | [], k, h => by simp
  | b :: l, k, h => by
    by_cases hb : p b = true
    · rw [List.takeWhile_cons_of_pos hb] at h ⊢
      cases k with
      | zero => simp [hb]
      | succ k => simpa using takeWhile_at l k (by simpa using h)
    · rw [List.takeWhile_cons_of_neg hb] at h ⊢
      simp at h; subst h; simp [hb]
theorem takeWhile_get {p : UInt8 → Bool} : ∀ (l : List UInt8) (k : Nat), k < (l.takeWhile p).length → (l.takeWhile p)[k]? = l[k]?
  | [], k, h => by simp at h
  | b :: l, k, h => by
    by_cases hb : p b = true
    · rw [List.takeWhile_cons_of_pos hb] at h ⊢
      cases k with
      | zero => rfl
      | succ k => simpa using takeWhile_get l k (by simpa using h)
    · rw [List.takeWhile_cons_of_neg hb] at h; simp at h

theorem digs_at {s : List UInt8} {p k : Nat} (h : k ≤ (digs s p).length) : k < (digs s p).length ↔ ∃ b, s[p + k]? = some b ∧ isD b = true := by
  have := takeWhile_at (p := isD) (s.drop p) k h
  simpa [digs, List.getElem?_drop] using this
theorem digs_get {s : List UInt8} {p k : Nat} (h : k < (digs s p).length) : (digs s p)[k]? = s[p + k]? := by
  have := takeWhile_get (p := isD) (s.drop p) k h
  simpa [digs, List.getElem?_drop] using this
theorem digs_le (s : List UInt8) (p : Nat) : (digs s p).length ≤ s.length - p := by
  have := (List.takeWhile_sublist isD (l := s.drop p)).length_le
  simpa [digs] using this
theorem dend_le {s : List UInt8} {p : Nat} (h : p ≤ s.length) : dend s p ≤ s.length := by
  have := digs_le s p; unfold dend; omega

/-- The byte at a place. -/
def bAt (s : List UInt8) (i : Nat) : Nat := ((s[i]?).getD 0).toNat
theorem bAt_of {s : List UInt8} {i : Nat} {b : UInt8} (h : s[i]? = some b) : bAt s i = b.toNat := by simp [bAt, h]

def shapeS (s : List UInt8) (p e : Nat) (last : Nat) : Int :=
  if e = s.length then 5 else if e = p ∨ bAt s e ≠ last ∨ (1 < e - p ∧ bAt s p = 48) then 6 else 0

def numT (s : List UInt8) (low : Bool) (q most : Nat) : Int × Int × Int :=
  if shapeS s q (dend s q) 59 ≠ 0 then (0, 0, shapeS s q (dend s q) 59) else
  if low = true ∧ dend s q = q + 1 ∧ bAt s q = 48 then (0, 0, 6) else
  if most < val (digs s q) then (0, 0, 4) else
  (if low then -(val (digs s q) : Int) else (val (digs s q) : Int), (dend s q : Int) + 1, 0)
def lowB (s : List UInt8) (p : Nat) : Bool := decide (p < s.length) && decide (bAt s p = 45)
def numP (s : List UInt8) (p : Nat) : Int × Int × Int := numT s (lowB s p) (if lowB s p then p + 1 else p) (if lowB s p then 9223372036854775808 else 9223372036854775807)

/-- What reading a number comes to: the number, the place behind it, what was wrong. -/
def numR (s : List UInt8) (i : Int) : Int × Int × Int := if i < 0 ∨ (s.length : Int) < i then (0, 0, 3) else numP s i.toNat

/-- Three results. -/
def tup3 (x : Int × Int × Int) : AV := .tuple [.int .i64 x.1, .int .i64 x.2.1, .int .i64 x.2.2]
theorem tup3_of {a b c : Int} : tup3 (a, b, c) = .tuple [.int .i64 a, .int .i64 b, .int .i64 c] := rfl

end Go.Aff.L01
