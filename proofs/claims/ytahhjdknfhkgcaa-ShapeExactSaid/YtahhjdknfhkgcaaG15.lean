import Derived.Test.YtahhjdknfhkgcaaG14
import Derived.Test.YtahhjdknfhkgcaaG7

set_option linter.unusedSimpArgs false
set_option linter.unusedVariables false

namespace Go.Aff.L10
open Go.Proofs Go.Aff Go.Aff.L01 Classical
set_option maxRecDepth 20000

theorem sh_ints {n : Nat} {v : AV} (h : ShT Try.prog (n + 2) 50 v) : ∃ (tk : Tk) (l : List Int), v = .slice tk (l.map (AV.int .i64)) ∧ ∀ x ∈ l, Rng x := by
  obtain ⟨tk, xs, rfl, e⟩ := sh_slice (n := n + 1) (t := 50) Try.underlying50 h
  obtain ⟨l, rfl, hl⟩ := map_of (f := AV.int .i64) (p := Rng) (fun x hx => by obtain ⟨i, rfl, h1, h2⟩ := sh_int (n := n) (t := 3) Try.underlying3 (e x hx); exact ⟨i, rfl, h1, h2⟩)
  exact ⟨tk, l, rfl, hl⟩
theorem sh_sub {n : Nat} {v : AV} (h : ShT Try.prog (n + 9) 67 v) : ∃ y : Sub, v = subV y ∧ Rng y.num ∧ Rng y.kind ∧ Rng y.target := by
  obtain ⟨ps, rfl, hps⟩ := sh_struct (n := n + 8) Try.underlying67 h
  obtain ⟨p0, r, rfl, h0, hps⟩ := shTs_cons (n := n + 7) hps
  obtain ⟨p1, r, rfl, h1, hps⟩ := shTs_cons (n := n + 6) hps
  obtain ⟨p2, r, rfl, h2, hps⟩ := shTs_cons (n := n + 5) hps
  obtain ⟨p3, r, rfl, h3, hps⟩ := shTs_cons (n := n + 4) hps
  obtain ⟨p4, r, rfl, h4, hps⟩ := shTs_cons (n := n + 3) hps
  obtain ⟨p5, r, rfl, h5, hps⟩ := shTs_cons (n := n + 2) hps
  obtain rfl := shTs_nil hps
  obtain ⟨a, rfl, a1, a2⟩ := sh_int (t := 3) Try.underlying3 h0
  obtain ⟨b, rfl, b1, b2⟩ := sh_int (t := 3) Try.underlying3 h1
  obtain ⟨c, rfl, c1, c2⟩ := sh_int (t := 3) Try.underlying3 h2
  obtain ⟨d, rfl⟩ := sh_str (t := 9) Try.underlying9 h3
  obtain ⟨e, rfl⟩ := sh_dig (t := 65) Try.underlying65 h4
  obtain ⟨f, rfl⟩ := sh_dig (t := 65) Try.underlying65 h5
  exact ⟨⟨a, b, c, d, e, f⟩, rfl, ⟨a1, a2⟩, ⟨b1, b2⟩, ⟨c1, c2⟩⟩

theorem sh_pend {n : Nat} {v : AV} (h : ShT Try.prog (n + 9) 163 v) : ∃ y : Pend, v = pendV y ∧ True := by
  obtain ⟨ps, rfl, hps⟩ := sh_struct (n := n + 8) Try.underlying163 h
  obtain ⟨p0, r, rfl, h0, hps⟩ := shTs_cons (n := n + 7) hps
  obtain ⟨p1, r, rfl, h1, hps⟩ := shTs_cons (n := n + 6) hps
  obtain ⟨p2, r, rfl, h2, hps⟩ := shTs_cons (n := n + 5) hps
  obtain ⟨p3, r, rfl, h3, hps⟩ := shTs_cons (n := n + 4) hps
  obtain ⟨p4, r, rfl, h4, hps⟩ := shTs_cons (n := n + 3) hps
  obtain ⟨p5, r, rfl, h5, hps⟩ := shTs_cons (n := n + 2) hps
  obtain rfl := shTs_nil hps
  obtain ⟨a, rfl, _, _⟩ := sh_int (t := 3) Try.underlying3 h0
  obtain ⟨b, rfl, _, _⟩ := sh_int (t := 3) Try.underlying3 h1
  obtain ⟨c, rfl, _, _⟩ := sh_int (t := 3) Try.underlying3 h2
  obtain ⟨d, rfl, _, _⟩ := sh_int (t := 3) Try.underlying3 h3
  obtain ⟨e, rfl⟩ := sh_dig (t := 65) Try.underlying65 h4
  obtain ⟨f, rfl⟩ := sh_dig (t := 65) Try.underlying65 h5
  exact ⟨⟨a, b, c, d, e, f⟩, rfl, trivial⟩
theorem sh_blob {n : Nat} {v : AV} (h : ShT Try.prog (n + 9) 72 v) : ∃ y : Blob, v = blobV y := by
  obtain ⟨ps, rfl, hps⟩ := sh_struct (n := n + 8) Try.underlying72 h
  obtain ⟨p0, r, rfl, h0, hps⟩ := shTs_cons (n := n + 7) hps
  obtain ⟨p1, r, rfl, h1, hps⟩ := shTs_cons (n := n + 6) hps
  obtain ⟨p2, r, rfl, h2, hps⟩ := shTs_cons (n := n + 5) hps
  obtain ⟨p3, r, rfl, h3, hps⟩ := shTs_cons (n := n + 4) hps
  obtain rfl := shTs_nil hps
  obtain ⟨a, rfl, _, _⟩ := sh_int (t := 3) Try.underlying3 h0
  obtain ⟨b, rfl, _, _⟩ := sh_int (t := 3) Try.underlying3 h1
  obtain ⟨c, rfl⟩ := sh_str (t := 9) Try.underlying9 h2
  obtain ⟨e, rfl⟩ := sh_dig (t := 65) Try.underlying65 h3
  exact ⟨⟨a, b, c, e⟩, rfl⟩
theorem sh_rep {n : Nat} {v : AV} (h : ShT Try.prog (n + 18) 70 v) : ∃ (t : Tk) (y : Rep), v = repV t y := by
  obtain ⟨ps, rfl, hps⟩ := sh_struct (n := n + 17) Try.underlying70 h
  obtain ⟨p0, r, rfl, h0, hps⟩ := shTs_cons (n := n + 16) hps
  obtain ⟨p1, r, rfl, h1, hps⟩ := shTs_cons (n := n + 15) hps
  obtain ⟨p2, r, rfl, h2, hps⟩ := shTs_cons (n := n + 14) hps
  obtain ⟨p3, r, rfl, h3, hps⟩ := shTs_cons (n := n + 13) hps
  obtain ⟨p4, r, rfl, h4, hps⟩ := shTs_cons (n := n + 12) hps
  obtain ⟨p5, r, rfl, h5, hps⟩ := shTs_cons (n := n + 11) hps
  obtain ⟨p6, r, rfl, h6, hps⟩ := shTs_cons (n := n + 10) hps
  obtain ⟨p7, r, rfl, h7, hps⟩ := shTs_cons (n := n + 9) hps
  obtain ⟨p8, r, rfl, h8, hps⟩ := shTs_cons (n := n + 8) hps
  obtain ⟨p9, r, rfl, h9, hps⟩ := shTs_cons (n := n + 7) hps
  obtain rfl := shTs_nil hps
  obtain ⟨a, rfl, _, _⟩ := sh_int (t := 3) Try.underlying3 h0
  obtain ⟨b, rfl, _, _⟩ := sh_int (t := 3) Try.underlying3 h1
  obtain ⟨c, rfl⟩ := sh_str (t := 9) Try.underlying9 h2
  obtain ⟨d, rfl⟩ := sh_dig (t := 65) Try.underlying65 h3
  obtain ⟨tk, xs, rfl, e⟩ := sh_slice (n := n + 11) (t := 68) Try.underlying68 h4
  obtain ⟨l, rfl, _⟩ := map_of (f := pendV) (p := fun _ => True) (fun x hx => sh_pend (n := n + 2) (e x hx))
  obtain ⟨f, rfl, _, _⟩ := sh_int (t := 3) Try.underlying3 h5
  obtain ⟨g, rfl⟩ := sh_str (t := 9) Try.underlying9 h6
  obtain ⟨k, rfl⟩ := sh_dig (t := 65) Try.underlying65 h7
  obtain ⟨i, rfl⟩ := sh_str (t := 9) Try.underlying9 h8
  obtain ⟨j, rfl⟩ := sh_dig (t := 65) Try.underlying65 h9
  exact ⟨tk, ⟨a, b, c, d, l, f, g, k, i, j⟩, rfl⟩
theorem sh_msg {n : Nat} {v : AV} (h : ShT Try.prog (n + 30) 74 v) : ∃ (t u : Tk) (m : Msg), v = msgV t u m ∧ Rng m.by_ := by
  obtain ⟨ps, rfl, hps⟩ := sh_struct (n := n + 29) Try.underlying74 h
  obtain ⟨p0, r, rfl, h0, hps⟩ := shTs_cons (n := n + 28) hps
  obtain ⟨p1, r, rfl, h1, hps⟩ := shTs_cons (n := n + 27) hps
  obtain ⟨p2, r, rfl, h2, hps⟩ := shTs_cons (n := n + 26) hps
  obtain ⟨p3, r, rfl, h3, hps⟩ := shTs_cons (n := n + 25) hps
  obtain ⟨p4, r, rfl, h4, hps⟩ := shTs_cons (n := n + 24) hps
  obtain ⟨p5, r, rfl, h5, hps⟩ := shTs_cons (n := n + 23) hps
  obtain ⟨p6, r, rfl, h6, hps⟩ := shTs_cons (n := n + 22) hps
  obtain ⟨p7, r, rfl, h7, hps⟩ := shTs_cons (n := n + 21) hps
  obtain ⟨p8, r, rfl, h8, hps⟩ := shTs_cons (n := n + 20) hps
  obtain ⟨p9, r, rfl, h9, hps⟩ := shTs_cons (n := n + 19) hps
  obtain rfl := shTs_nil hps
  obtain ⟨a, rfl, _, _⟩ := sh_int (t := 3) Try.underlying3 h0
  obtain ⟨b, rfl, _, _⟩ := sh_int (t := 3) Try.underlying3 h1
  obtain ⟨c, rfl, _⟩ := sh_sub (n := n + 17) h2
  obtain ⟨t, d, rfl⟩ := sh_rep (n := n + 7) h3
  obtain ⟨e, rfl⟩ := sh_str (t := 9) Try.underlying9 h4
  obtain ⟨f, rfl, f1, f2⟩ := sh_int (t := 3) Try.underlying3 h5
  obtain ⟨g, rfl⟩ := sh_dig (t := 65) Try.underlying65 h6
  obtain ⟨k, rfl⟩ := sh_dig (t := 65) Try.underlying65 h7
  obtain ⟨i, rfl⟩ := sh_blob (n := n + 11) h8
  obtain ⟨u, l, rfl, _⟩ := sh_ints (n := n + 17) h9
  exact ⟨t, u, ⟨a, b, c, d, e, f, g, k, i, l⟩, rfl, f1, f2⟩
end Go.Aff.L10

