/- Values' cells: parts, places, and what a store does. -/
import Derived.Test.YtnoopjlfcdmdfaaAffB
import Derived.Laws.CopyRow
namespace Go.Aff
set_option linter.unusedVariables false
set_option linter.unusedSimpArgs false

variable {g g' : G} {w w' : World} {σ σ' : AST} {P : Program}

theorem cells_one {x : Value} (h : vAgg x = false) : x.cells = #[x] := by cases x <;> simp_all [vAgg, Value.cells]

theorem cells_agg {x : Value} (h : vAgg x = true) : ∃ cs, x = .agg cs := by cases x <;> simp_all [vAgg]

theorem relV_scalar {v : AV} {x : Value} (h : relV g w v x) (hk : v.known = true) (ha : v.isAgg = false) : relC g w v [x] ∧ vAgg x = false := by
  rcases h with rfl | ⟨_, _, rfl, _⟩ | ⟨hr, hg⟩
  · simp [AV.known] at hk
  · simp [AV.known] at hk
  · rw [ha] at hg; rw [cells_one hg.symm] at hr; exact ⟨hr, hg.symm⟩

theorem relV_agg {v : AV} {x : Value} (h : relV g w v x) (ha : v.isAgg = true) : ∃ cs, x = .agg cs ∧ relC g w v cs.toList := by
  rcases h with rfl | ⟨_, _, rfl, _⟩ | ⟨hr, hg⟩
  · simp [AV.isAgg] at ha
  · simp [AV.isAgg] at ha
  · rw [ha] at hg; obtain ⟨cs, rfl⟩ := cells_agg hg.symm; exact ⟨cs, rfl, hr⟩

theorem relV_known {v : AV} {x : Value} (h : relV g w v x) (hk : v.known = true) : relC g w v x.cells.toList ∧ v.isAgg = vAgg x := by
  rcases h with rfl | ⟨_, _, rfl, _⟩ | h
  · simp [AV.known] at hk
  · simp [AV.known] at hk
  · exact h

theorem relV_int {k : IntKind} {n : Int} {x : Value} (h : relV g w (.int k n) x) : x = .int k n := by
  have := (relV_scalar h rfl rfl).1; simpa [relC] using this
theorem relV_bool {b : Bool} {x : Value} (h : relV g w (.bool b) x) : x = .bool b := by
  have := (relV_scalar h rfl rfl).1; simpa [relC] using this
theorem relV_str {s : List UInt8} {x : Value} (h : relV g w (.str s) x) : x = .string ⟨s.toArray⟩ ∧ s.length ≤ maxL := by
  have := (relV_scalar h rfl rfl).1; simpa [relC] using this
theorem relV_ptr {i : Nat} {p : List Nat} {x : Value} (h : relV g w (.ptr (some (i, p))) x) :
    ∃ b sh o, g.objs[i]? = some (b, sh) ∧ sh.off p = some o ∧ x = .pointer (some ⟨b, o, none⟩) := by
  have := (relV_scalar h rfl rfl).1; simpa [relC] using this
theorem relV_nilptr {x : Value} (h : relV g w (.ptr none) x) : x = .pointer none := by
  have := (relV_scalar h rfl rfl).1; simpa [relC] using this
theorem relV_eptr {v : AV} {x : Value} (h : relV g w (.eptr v) x) : ∃ b o cv, x = .pointer (some ⟨b, o, none⟩) ∧ relC g w v cv ∧ rd w b o cv ∧ g.below b (o + cv.length) := by
  have := (relV_scalar h rfl rfl).1; simpa [relC] using this
theorem relV_slice {tk : Tk} {xs : List AV} {x : Value} (h : relV g w (.slice tk xs) x) :
    ∃ a c es css, x = .slice (a.map mkAddr) xs.length c ∧ relEs g w es xs css ∧ xs.length ≤ c ∧ c ≤ maxL ∧ (a = none → c = 0) ∧
      (∀ b o, a = some (b, o) → css = [] ∨ (rd w b o css ∧ g.below b (o + css.length))) ∧ tkOk g a xs.length c es tk := by
  have := (relV_scalar h rfl rfl).1; simpa [relC] using this
theorem relV_tuple {vs : List AV} {x : Value} (h : relV g w (.tuple vs) x) : ∃ a, x = .tuple a ∧ relVs g w vs a.toList := by
  rcases h with h | ⟨vs', a, h, rfl, hr⟩ | ⟨hr, _⟩
  · cases h
  · cases h; exact ⟨a, rfl, hr⟩
  · simp [relC] at hr

theorem relV_of {v : AV} {x : Value} (h : relC g w v x.cells.toList) (ha : v.isAgg = vAgg x) : relV g w v x := .inr (.inr ⟨h, ha⟩)
theorem relV_mkInt (k : IntKind) (n : Int) : relV g w (.int k n) (.int k n) := relV_of (by simp [relC, Value.cells]) rfl
theorem relV_mkBool (b : Bool) : relV g w (.bool b) (.bool b) := relV_of (by simp [relC, Value.cells]) rfl
theorem relV_mkStr {s : List UInt8} (h : s.length ≤ maxL) : relV g w (.str s) (.string ⟨s.toArray⟩) := relV_of (by simp [relC, Value.cells, h]) rfl

/-! ### Parts -/

theorem relPs_nth : ∀ {ps : List AV} {cs : List Value} {i : Nat} {x : AV}, relPs g w ps cs → ps[i]? = some x →
    ∃ cx, relC g w x cx ∧ (∀ j, j < cx.length → cs[AV.sizes (ps.take i) + j]? = cx[j]?) ∧ AV.sizes (ps.take i) + cx.length ≤ cs.length
  | [], cs, i, x, h, hi => by simp at hi
  | p :: ps, cs, 0, x, h, hi => by
    simp only [relPs] at h; obtain ⟨c1, c2, rfl, h1, h2⟩ := h
    simp at hi; subst hi
    exact ⟨c1, h1, fun j hj => by simp [AV.sizes, List.getElem?_append_left hj], by simp [AV.sizes]⟩
  | p :: ps, cs, i + 1, x, h, hi => by
    simp only [relPs] at h; obtain ⟨c1, c2, rfl, h1, h2⟩ := h
    simp at hi
    obtain ⟨cx, hx, hc, hl⟩ := relPs_nth h2 hi
    have hs := relC_size h1
    refine ⟨cx, hx, fun j hj => ?_, ?_⟩
    · rw [← hc j hj, List.take_succ_cons, AV.sizes, ← hs, List.getElem?_append_right (by omega)]
      congr 1; omega
    · simp only [List.take_succ_cons, AV.sizes, List.length_append, ← hs]; omega

theorem relEs_nth {es : Nat} : ∀ {ps : List AV} {cs : List Value} {i : Nat} {x : AV}, relEs g w es ps cs → ps[i]? = some x →
    ∃ cx, relC g w x cx ∧ cx.length = es ∧ (∀ j, j < cx.length → cs[i * es + j]? = cx[j]?) ∧ i * es + es ≤ cs.length
  | [], cs, i, x, h, hi => by simp at hi
  | p :: ps, cs, 0, x, h, hi => by
    simp only [relEs] at h; obtain ⟨c1, c2, rfl, hl, h1, h2⟩ := h
    simp at hi; subst hi
    exact ⟨c1, h1, hl, fun j hj => by simp [List.getElem?_append_left hj], by simp [hl]⟩
  | p :: ps, cs, i + 1, x, h, hi => by
    simp only [relEs] at h; obtain ⟨c1, c2, rfl, hl, h1, h2⟩ := h
    simp at hi
    obtain ⟨cx, hx, hlx, hc, hle⟩ := relEs_nth h2 hi
    refine ⟨cx, hx, hlx, fun j hj => ?_, ?_⟩
    · rw [← hc j hj, List.getElem?_append_right (by rw [hl, Nat.add_mul]; omega)]
      congr 1; rw [hl, Nat.add_mul]; omega
    · simp only [List.length_append, hl, Nat.add_mul]; omega

theorem sizes_take (ps : List AV) (i : Nat) : Shape.sizes ((AV.shapes ps).take i) = AV.sizes (ps.take i) := by
  rw [← AV.sizes_shapes, AV.shapes_eq_map, AV.shapes_eq_map, List.map_take]

theorem shapes_get (ps : List AV) (i : Nat) : (AV.shapes ps)[i]? = (ps[i]?).map AV.shape := by
  rw [AV.shapes_eq_map, List.getElem?_map]

theorem at_nil (v : AV) : v.at [] = some v := by cases v <;> rfl

theorem at_off : ∀ {p : List Nat} {v u : AV}, v.at p = some u → ∃ o, v.shape.off p = some o
  | [], v, u, h => ⟨0, by cases v <;> simp [AV.shape, Shape.off]⟩
  | i :: p, .agg ps, u, h => by
    simp only [AV.at, Option.bind_eq_some_iff] at h
    obtain ⟨x, hx, hu⟩ := h
    obtain ⟨o, ho⟩ := at_off hu
    exact ⟨AV.sizes (ps.take i) + o, by simp [AV.shape, Shape.off, shapes_get, hx, ho, sizes_take]⟩
  | [i], .dig d, u, h => by
    simp only [AV.at, Option.map_eq_some_iff] at h
    obtain ⟨b, hb, _⟩ := h
    have : i < 32 := by have := (List.getElem?_eq_some_iff.1 hb).1; rw [d.h] at this; exact this
    exact ⟨i, by simp [AV.shape, Shape.off, this]⟩
  | i :: j :: p, .dig d, u, h => by simp [AV.at] at h
  | i :: p, .undef, u, h | i :: p, .bool _, u, h | i :: p, .int _ _, u, h | i :: p, .str _, u, h | i :: p, .ptr _, u, h | i :: p, .slice _ _, u, h | i :: p, .eptr _, u, h
  | i :: p, .mp _, u, h | i :: p, .fn _ _ _, u, h | i :: p, .nilFn, u, h | i :: p, .tuple _, u, h | i :: p, .iface _ _, u, h | i :: p, .nilIface, u, h => by simp [AV.at] at h

theorem at_rel : ∀ {p : List Nat} {v u : AV} {cs : List Value} {o : Nat}, relC g w v cs → v.at p = some u → v.shape.off p = some o →
    ∃ cu, relC g w u cu ∧ (∀ j, j < cu.length → cs[o + j]? = cu[j]?) ∧ o + cu.length ≤ cs.length
  | [], v, u, cs, o, h, hu, ho => by
    have h1 : v = u := by rw [at_nil] at hu; exact Option.some.inj hu
    have h2 : o = 0 := by cases v <;> simp_all [AV.shape, Shape.off]
    subst h1 h2; exact ⟨cs, h, fun j _ => by simp, by simp⟩
  | i :: p, .agg ps, u, cs, o, h, hu, ho => by
    simp only [AV.at, Option.bind_eq_some_iff] at hu
    obtain ⟨x, hx, hu⟩ := hu
    simp only [AV.shape, Shape.off, shapes_get, hx, Option.map_some, Option.bind_some, Option.map_eq_some_iff, sizes_take] at ho
    obtain ⟨o', ho', rfl⟩ := ho
    simp only [relC] at h
    obtain ⟨cx, hcx, hc, hl⟩ := relPs_nth h hx
    obtain ⟨cu, hcu, hc', hl'⟩ := at_rel hcx hu ho'
    refine ⟨cu, hcu, fun j hj => ?_, by omega⟩
    rw [← hc' j hj, ← hc (o' + j) (by omega)]; congr 1; omega
  | [i], .dig d, u, cs, o, h, hu, ho => by
    simp only [AV.at, Option.map_eq_some_iff] at hu
    obtain ⟨b, hb, rfl⟩ := hu
    have hi : i < 32 := by have := (List.getElem?_eq_some_iff.1 hb).1; rw [d.h] at this; exact this
    simp [AV.shape, Shape.off, hi] at ho
    subst ho
    simp only [relC] at h; subst h
    refine ⟨[.int .u8 b.toNat], by simp [relC], fun j hj => ?_, by simp [d.h]; omega⟩
    have : j = 0 := by simpa using hj
    subst this; simp [hb]
  | i :: j :: p, .dig d, u, cs, o, h, hu, ho => by simp [AV.at] at hu
  | i :: p, .undef, u, _, _, _, h, _ | i :: p, .bool _, u, _, _, _, h, _ | i :: p, .int _ _, u, _, _, _, h, _ | i :: p, .str _, u, _, _, _, h, _ | i :: p, .ptr _, u, _, _, _, h, _ | i :: p, .slice _ _, u, _, _, _, h, _ | i :: p, .eptr _, u, _, _, _, h, _
  | i :: p, .mp _, u, _, _, _, h, _ | i :: p, .fn _ _ _, u, _, _, _, h, _ | i :: p, .nilFn, u, _, _, _, h, _ | i :: p, .tuple _, u, _, _, _, h, _ | i :: p, .iface _ _, u, _, _, _, h, _ | i :: p, .nilIface, u, _, _, _, h, _ => by simp [AV.at] at h

/-! ### Types' facts -/

theorem info_of {t : TypeId} {d : TypeDesc} (h : P.underlying t = some d) : ∃ i, P.info? t = some i ∧ i.size = P.cellsOf t ∧ i.bytes = P.bytesOf t := by
  unfold Program.underlying at h
  cases hi : P.info? t with
  | none => rw [hi] at h; simp at h
  | some i => exact ⟨i, rfl, by simp [Program.cellsOf, hi], by simp [Program.bytesOf, hi]⟩

theorem run_sizeOf' {t : TypeId} {d : TypeDesc} (h : P.underlying t = some d) (w : World) : (sizeOf t).run P w = .ok (P.cellsOf t) w := by
  obtain ⟨i, hi, hs, _⟩ := info_of h
  simp [sizeOf, typeInfo, hi, hs]

theorem run_isAgg' {t : TypeId} {b : Bool} (h : aggT P t = some b) (w : World) : (isAgg t).run P w = .ok b w := by
  unfold aggT at h
  cases hd : P.underlying t with
  | none => simp [hd] at h
  | some d =>
    simp only [hd, Option.map_some, Option.some.injEq] at h
    simp only [isAgg, Sem.run_bind, run_underlying hd, Result.andThen_ok]
    cases d <;> simp_all

theorem agg_under {t : TypeId} {b : Bool} (h : aggT P t = some b) : ∃ d, P.underlying t = some d := by
  unfold aggT at h
  cases hd : P.underlying t with
  | none => simp [hd] at h
  | some d => exact ⟨d, rfl⟩

theorem rd_cell {b o : Nat} {cs : List Value} (h : rd w b o cs) (j : Nat) (v : Value) (hj : cs[j]? = some v) : w.cell? ((⟨b, o, none⟩ : Addr).add j) = some v := by
  obtain ⟨c, e, fr, hc, hk⟩ := h
  have hl : j < cs.length := (List.getElem?_eq_some_iff.1 hj).1
  have : (⟨b, o, none⟩ : Addr).add j = ⟨b, o + j, none⟩ := by unfold Addr.add; split <;> simp_all
  rw [this]
  simp [World.cell?, hc, hk j hl, hj]

theorem relC_scalar {v : AV} {cs : List Value} (h : relC g w v cs) (ha : v.isAgg = false) : ∃ x, cs = [x] := by
  have hs := relC_size h
  have : v.size = 1 := by cases v <;> simp_all [AV.isAgg, AV.size]
  rw [this] at hs
  exact List.length_eq_one_iff.1 hs

mutual
theorem relC_cell1 : ∀ {v : AV} {cs : List Value}, relC g w v cs → ∀ c ∈ cs, c.oneCell' = true
  | .undef, cs, h => by simp only [relC] at h; obtain ⟨c, rfl, hc⟩ := h; simpa using hc
  | .bool _, cs, h | .int _ _, cs, h | .nilFn, cs, h | .nilIface, cs, h => by simp only [relC] at h; subst h; simp [Value.oneCell']
  | .str _, cs, h => by simp only [relC] at h; obtain ⟨rfl, _⟩ := h; simp [Value.oneCell']
  | .ptr none, cs, h => by simp only [relC] at h; subst h; simp [Value.oneCell']
  | .ptr (some (i, p)), cs, h => by simp only [relC] at h; obtain ⟨_, _, _, _, _, rfl⟩ := h; simp [Value.oneCell']
  | .slice _ _, cs, h => by simp only [relC] at h; obtain ⟨_, _, _, _, rfl, _⟩ := h; simp [Value.oneCell']
  | .eptr _, cs, h => by simp only [relC] at h; obtain ⟨_, _, _, rfl, _⟩ := h; simp [Value.oneCell']
  | .mp none, cs, h => by simp only [relC] at h; subst h; simp [Value.oneCell']
  | .mp (some _), cs, h => by simp only [relC] at h; obtain ⟨_, _, _, rfl⟩ := h; simp [Value.oneCell']
  | .fn _ _ _, cs, h => by simp only [relC] at h; obtain ⟨_, _, rfl, _⟩ := h; simp [Value.oneCell']
  | .agg ps, cs, h => by simp only [relC] at h; exact relPs_cell1 h
  | .dig d, cs, h => by simp only [relC] at h; subst h; intro c hc; simp at hc; obtain ⟨b, _, rfl⟩ := hc; rfl
  | .tuple _, cs, h => by simp only [relC] at h
  | .iface _ _, cs, h => by simp only [relC] at h; obtain ⟨_, rfl, _⟩ := h; simp [Value.oneCell']
theorem relPs_cell1 : ∀ {ps : List AV} {cs : List Value}, relPs g w ps cs → ∀ c ∈ cs, c.oneCell' = true
  | [], cs, h => by simp only [relPs] at h; subst h; simp
  | p :: ps, cs, h => by
    simp only [relPs] at h; obtain ⟨c1, c2, rfl, h1, h2⟩ := h
    intro c hc
    rcases List.mem_append.1 hc with hc | hc
    · exact relC_cell1 h1 c hc
    · exact relPs_cell1 h2 c hc
end

theorem vAgg_one {c : Value} (h : c.oneCell' = true) : vAgg c = false := by cases c <;> simp_all [Value.oneCell', vAgg]

/-- A variable is read. -/
theorem run_loadVar' {t : TypeId} {b o : Nat} {v : AV} {cv : List Value} (hf : fits P t v) (hv : relC g w v cv) (hr : rd w b o cv) :
    ∃ x, (loadVar t ⟨b, o, none⟩).run P w = .ok x w ∧ relV g w v x := by
  obtain ⟨ha, hs⟩ := hf
  obtain ⟨d, hd⟩ := agg_under ha
  have hc := rd_cell hr
  cases hg : v.isAgg with
  | true =>
    rw [hg] at ha
    refine ⟨.agg cv.toArray, ?_, relV_of (by simpa [Value.cells] using hv) hg⟩
    have hl := run_loadCells_list (P := P) w ⟨b, o, none⟩ cv hc
    rw [relC_size hv, ← hs] at hl
    simp [loadVar, run_isAgg' ha, run_sizeOf' hd, hl]
  | false =>
    rw [hg] at ha
    obtain ⟨x, rfl⟩ := relC_scalar hv hg
    have h1 := relC_cell1 hv x (by simp)
    refine ⟨x, ?_, relV_of ?_ ?_⟩
    · have h0 := hc 0 x rfl
      simp [Addr.add] at h0
      simp [loadVar, run_isAgg' ha, h0]
    · rw [cells_one (vAgg_one h1)]; exact hv
    · rw [hg, vAgg_one h1]

end Go.Aff
