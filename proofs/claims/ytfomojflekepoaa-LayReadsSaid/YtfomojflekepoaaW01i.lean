/- Layer 1, walked: a text that is read. -/
import Derived.Test.YtfomojflekepoaaW01d
import Derived.Test.YtfomojflekepoaaL01c
namespace Go.Aff.L01
open Go.Proofs Go.Aff
set_option linter.unusedVariables false
set_option linter.unusedSimpArgs false
attribute [local go_sem] Try.underlying3 Try.underlying4 Try.underlying5 Try.underlying9 Try.underlying51 Try.underlying53 Try.underlying27

/-- What reading a text comes to. -/
def textP (s : List UInt8) (p : Nat) : List UInt8 × Int × Int :=
  if shapeS s p (dend s p) 58 ≠ 0 then ([], 0, shapeS s p (dend s p) 58) else
  if 16384 < val (digs s p) then ([], 0, 4) else
  if s.length < dend s p + 1 + val (digs s p) then ([], 0, 5) else
  ((s.take (dend s p + 1 + val (digs s p))).drop (dend s p + 1), ((dend s p + 1 + val (digs s p) : Nat) : Int), 0)
def textR (s : List UInt8) (i : Int) : List UInt8 × Int × Int := if i < 0 ∨ (s.length : Int) < i then ([], 0, 3) else textP s i.toNat
def tupT (x : List UInt8 × Int × Int) : AV := .tuple [.str x.1, .int .i64 x.2.1, .int .i64 x.2.2]

theorem readText_c {s : List UInt8} {i : Int} (hi0 : -9223372036854775808 ≤ i) (hi1 : i ≤ 9223372036854775807) {σ : AST} {K : AV → AST → Prop}
    (hK : K (tupT (textR s i)) σ) : TCalls Try.prog 21 [.str s, .int .i64 i] σ K := by
  refine tcalls_walk Try.f21 _ [.tmp 4, .tmp 5, .tmp 6] Try.func21 rfl rfl rfl mixed (Nat.le_of_ble_eq_true rfl) rfl fun hlen => ?_
  have hs : s.length ≤ 9223372036854775807 := hlen (.str s) (by simp)
  refine awp_seq_k fun KA hKA => ?_
  simp -dsimp only [↓reduceIte, go_sem]
  refine hKA _ _ (awp_seq_k fun KB hKB => ?_)
  have go : ∀ τ : Env, τ 0 = .str s → τ 1 = .int .i64 i → ¬ (i < 0 ∨ (s.length : Int) < i) → KB τ σ := by
    intro τ t0 t1 hok
    have hi : (i.toNat : Int) = i := by omega
    rw [textR, if_neg hok] at hK
    generalize hp : i.toNat = p at hi hK
    have hpl : p ≤ s.length := by omega
    rw [← hi] at t1
    have hel := dend_le hpl
    have heq : p ≤ dend s p := by unfold dend; omega
    rw [textP] at hK
    refine hKB _ _ ?_
    simp -dsimp only [↓reduceIte, go_sem, t0, t1]
    refine run_c (most := 16384) hpl (by omega) (by omega) ?_
    simp -dsimp only [↓reduceIte, go_sem, t0, t1]
    refine shape_c (last := 58) heq hel ?_
    generalize hval : val (digs s p) = v at *
    generalize hee : dend s p = e at *
    generalize hsh : shapeS s p e 58 = sh at *
    simp -dsimp only [↓reduceIte, go_sem, t0, t1]
    refine boolW_split (fun h1 => ?_) (fun h1 => ?_)
    · have h1 : sh ≠ 0 := by simp at h1; exact h1
      rw [if_pos h1] at hK
      simp -dsimp only [↓reduceIte, go_sem, t0, t1]
      exact hK
    · have h1 : sh = 0 := by simp at h1; exact h1
      rw [if_neg (by simp [h1])] at hK
      rw [h1] at hsh
      have hlt := shape_ok hsh hel
      simp -dsimp only [↓reduceIte, go_sem, t0, t1]
      refine boolW_split (fun h2 => ?_) (fun h2 => ?_)
      · have h2 : 16384 < v := by simp at h2; omega
        rw [if_pos h2] at hK
        simp -dsimp only [↓reduceIte, go_sem, t0, t1]
        exact hK
      · have h2 : ¬ 16384 < v := by simp at h2; omega
        rw [if_neg h2] at hK
        have hmod : v % 18446744073709551616 = v := by omega
        have hw : IntKind.i64.wrap ((v : Nat) : Int) = (v : Int) := wrap_i64 (by omega) (by omega)
        have he1 : IntKind.i64.wrap ((e : Int) + 1) = ((e + 1 : Nat) : Int) := by rw [wrap_i64 (by omega) (by omega)]; omega
        simp -dsimp only [↓reduceIte, go_sem, t0, t1]
        refine arr_intro fun _ => ?_
        simp -dsimp only [↓reduceIte, go_sem, t0, t1]
        rw [hmod, hw, he1, wrap_i64 (n := (s.length : Int) - _) (by omega) (by omega)]
        refine boolW_split (fun h3 => ?_) (fun h3 => ?_)
        · have h3 : s.length < e + 1 + v := by simp at h3; omega
          rw [if_pos h3] at hK
          simp -dsimp only [↓reduceIte, go_sem, t0, t1]
          exact hK
        · have h3 : ¬ s.length < e + 1 + v := by simp at h3; omega
          rw [if_neg h3] at hK
          simp -dsimp only [↓reduceIte, go_sem, t0, t1]
          refine side_later (by omega) ?_
          have hfin : IntKind.i64.wrap (((e + 1 : Nat) : Int) + (v : Int)) = ((e + 1 + v : Nat) : Int) := by rw [wrap_i64 (by omega) (by omega)]; omega
          rw [hw, hfin]
          simp -dsimp only [↓reduceIte, go_sem, t0, t1]
          refine side_later (by omega) ?_
          simp -dsimp only [↓reduceIte, go_sem, t0, t1]
          refine ⟨by omega, by omega, later_intro ?_⟩
          simp -dsimp only [↓reduceIte, go_sem, t0, t1]
          rw [hw, hfin]
          exact hK
  have bad : i < 0 ∨ (s.length : Int) < i → K (tupT ([], 0, 3)) σ := fun h => by
    rw [textR, if_pos h] at hK; exact hK
  simp -dsimp only [↓reduceIte, go_sem]
  refine guardV_split (fun h1 => ?_) (fun h1 => ?_) <;> (try rw [h1])
  · have h1 : ¬ i < 0 := by simpa using h1
    simp -dsimp only [↓reduceIte, go_sem]
    refine arr_intro fun _ => ?_
    simp -dsimp only [↓reduceIte, go_sem]
    refine boolW_split (fun h2 => ?_) (fun h2 => ?_)
    · have h2 : (s.length : Int) < i := by simpa using h2
      simp -dsimp only [↓reduceIte, go_sem]
      exact bad (.inr h2)
    · have h2 : ¬ (s.length : Int) < i := by simpa using h2
      simp -dsimp only [↓reduceIte, go_sem]
      refine go _ ?_ ?_ (by omega) <;> simp only [go_sem]
  · have h1 : i < 0 := by simpa using h1
    simp -dsimp only [↓reduceIte, go_sem]
    exact bad (.inl h1)
end Go.Aff.L01
