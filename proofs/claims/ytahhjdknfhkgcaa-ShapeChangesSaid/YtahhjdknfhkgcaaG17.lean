import Derived.Test.YtahhjdknfhkgcaaG16
import Derived.Test.YtahhjdknfhkgcaaG7

set_option linter.unusedSimpArgs false
set_option linter.unusedVariables false

namespace Go.Aff.L10
open Go.Proofs Go.Aff Go.Aff.L01 Classical
set_option maxRecDepth 20000

theorem sh_ints {n : Nat} {v : AV} (h : ShT Try.prog (n + 2) 50 v) : ∃ (tk : Tk) (l : List Int), v = .slice tk (l.map (AV.int .i64)) ∧ ∀ x ∈ l, Rng x := by
  obtain ⟨tk, xs, rfl, e⟩ := sh_slice (n := n + 1) (t := 50) Try.underlying50 h
  obtain ⟨l, rfl, hl⟩ := map_of (f := AV.int .i64) (p := Rng) (fun x hx => by obtain ⟨i, rfl, h1, h2⟩ := sh_int (n := n) (t := 3) Try.underlying3 (e x hx); exact ⟨i, rfl, h1, h2⟩)
  exact ⟨tk, l, rfl, hl⟩
theorem sh_strs {n : Nat} {v : AV} (h : ShT Try.prog (n + 2) 43 v) : ∃ (tk : Tk) (l : List (List UInt8)), v = .slice tk (l.map AV.str) := by
  obtain ⟨tk, xs, rfl, e⟩ := sh_slice (n := n + 1) (t := 43) Try.underlying43 h
  obtain ⟨l, rfl, hl⟩ := map_of (f := AV.str) (p := fun _ => True) (fun x hx => by obtain ⟨i, rfl⟩ := sh_str (n := n) (t := 9) Try.underlying9 (e x hx); exact ⟨i, rfl, trivial⟩)
  exact ⟨tk, l, rfl⟩
theorem sh_leaf {n : Nat} {v : AV} (h : ShT Try.prog (n + 9) 84 v) : ∃ y : TL, v = L21.leafV y := by
  obtain ⟨ps, rfl, hps⟩ := sh_struct (n := n + 8) Try.underlying84 h
  obtain ⟨p0, r, rfl, h0, hps⟩ := shTs_cons (n := n + 7) hps
  obtain ⟨p1, r, rfl, h1, hps⟩ := shTs_cons (n := n + 6) hps
  obtain ⟨p2, r, rfl, h2, hps⟩ := shTs_cons (n := n + 5) hps
  obtain ⟨p3, r, rfl, h3, hps⟩ := shTs_cons (n := n + 4) hps
  obtain ⟨p4, r, rfl, h4, hps⟩ := shTs_cons (n := n + 3) hps
  obtain ⟨p5, r, rfl, h5, hps⟩ := shTs_cons (n := n + 2) hps
  obtain rfl := shTs_nil hps
  obtain ⟨a, rfl, _, _⟩ := sh_int (t := 3) Try.underlying3 h0
  obtain ⟨b, rfl, _, _⟩ := sh_int (t := 3) Try.underlying3 h1
  obtain ⟨c, rfl, _, _⟩ := sh_int (t := 3) Try.underlying3 h2
  obtain ⟨t1, d, rfl, _⟩ := sh_ints (n := n + 2) h3
  obtain ⟨t2, e, rfl⟩ := sh_strs (n := n + 1) h4
  obtain ⟨t3, f, rfl, _⟩ := sh_ints (n := n) h5
  exact ⟨⟨⟨a, b, c, d, e, f⟩, t1, t2, t3⟩, rfl⟩
theorem sh_leafs {n : Nat} {v : AV} (h : ShT Try.prog (n + 11) 22 v) : ∃ (tk : Tk) (l : List TL), v = .slice tk (l.map L21.leafV) := by
  obtain ⟨tk, xs, rfl, e⟩ := sh_slice (n := n + 10) (t := 22) Try.underlying22 h
  obtain ⟨l, rfl, _⟩ := map_of (f := L21.leafV) (p := fun _ => True) (fun x hx => by obtain ⟨y, rfl⟩ := sh_leaf (n := n + 1) (e x hx); exact ⟨y, rfl, trivial⟩)
  exact ⟨tk, l, rfl⟩
theorem sh_tch {n : Nat} {v : AV} (h : ShT Try.prog (n + 6) 24 v) : ∃ y : Tch, v = tchV y := by
  obtain ⟨ps, rfl, hps⟩ := sh_struct (n := n + 5) Try.underlying24 h
  obtain ⟨p0, r, rfl, h0, hps⟩ := shTs_cons (n := n + 4) hps
  obtain ⟨p1, r, rfl, h1, hps⟩ := shTs_cons (n := n + 3) hps
  obtain ⟨p2, r, rfl, h2, hps⟩ := shTs_cons (n := n + 2) hps
  obtain rfl := shTs_nil hps
  obtain ⟨a, rfl, _, _⟩ := sh_int (t := 3) Try.underlying3 h0
  obtain ⟨b, rfl, _, _⟩ := sh_int (t := 3) Try.underlying3 h1
  obtain ⟨c, rfl, _, _⟩ := sh_int (t := 3) Try.underlying3 h2
  exact ⟨⟨a, b, c⟩, rfl⟩
theorem sh_trn {v : AV} (h : ShT Try.prog 50 26 v) : ∃ (t u : Tk) (x : Trn), v = trnV t u x ∧ Rng x.me ∧ Rng x.n := by
  obtain ⟨ps, rfl, hps⟩ := sh_struct (n := 49) Try.underlying26 h
  obtain ⟨p0, r, rfl, h0, hps⟩ := shTs_cons (n := 48) hps
  obtain ⟨p1, r, rfl, h1, hps⟩ := shTs_cons (n := 47) hps
  obtain ⟨p2, r, rfl, h2, hps⟩ := shTs_cons (n := 46) hps
  obtain ⟨p3, r, rfl, h3, hps⟩ := shTs_cons (n := 45) hps
  obtain ⟨p4, r, rfl, h4, hps⟩ := shTs_cons (n := 44) hps
  obtain rfl := shTs_nil hps
  obtain ⟨a, rfl, a1, a2⟩ := sh_int (t := 3) Try.underlying3 h0
  obtain ⟨b, rfl, b1, b2⟩ := sh_int (t := 3) Try.underlying3 h1
  obtain ⟨t, c, rfl⟩ := sh_leafs (n := 35) h2
  obtain ⟨u, d, rfl⟩ := sh_leafs (n := 34) h3
  obtain ⟨e, rfl⟩ := sh_tch (n := 38) h4
  exact ⟨t, u, ⟨a, b, c, d, e⟩, rfl, ⟨a1, a2⟩, ⟨b1, b2⟩⟩
end Go.Aff.L10

