import Derived.Test.YtahhjdknfhkgcaaG1
import Derived.Laws.CopyRow
import Derived.Laws.Slices
import Derived.Laws.Append
import Derived.Laws.BytesString

set_option linter.unusedSimpArgs false
set_option linter.unusedVariables false

namespace Go.Aff

variable {g g' : G} {w w' : World} {σ σ' : AST} {P : Program}

theorem cells_one {x : Value} (h : vAgg x = false) : x.cells = #[x] := by cases x <;> simp_all [vAgg, Value.cells]

theorem cells_agg {x : Value} (h : vAgg x = true) : ∃ cs, x = .agg cs := by cases x <;> simp_all [vAgg]

theorem relV_scalar {v : AV} {x : Value} (h : relV g w v x) (hk : v.known = true) (ha : v.isAgg = false) : relC g w v [x] ∧ vAgg x = false := by
  rcases h with rfl | ⟨_, _, rfl, _⟩ | ⟨hr, hg⟩
  · simp [AV.known] at hk
  · simp [AV.known] at hk
  · rw [ha] at hg; rw [cells_one hg.symm] at hr; exact ⟨hr, hg.symm⟩

theorem relV_agg {v : AV} {x : Value} (h : relV g w v x) (ha : v.isAgg = true) : ∃ cs, x = .agg cs ∧ relC g w v cs.toList := by
  rcases h with rfl | ⟨_, _, rfl, _⟩ | ⟨hr, hg⟩
  · simp [AV.isAgg] at ha
  · simp [AV.isAgg] at ha
  · rw [ha] at hg; obtain ⟨cs, rfl⟩ := cells_agg hg.symm; exact ⟨cs, rfl, hr⟩

theorem relV_known {v : AV} {x : Value} (h : relV g w v x) (hk : v.known = true) : relC g w v x.cells.toList ∧ v.isAgg = vAgg x := by
  rcases h with rfl | ⟨_, _, rfl, _⟩ | h
  · simp [AV.known] at hk
  · simp [AV.known] at hk
  · exact h

theorem relV_int {k : IntKind} {n : Int} {x : Value} (h : relV g w (.int k n) x) : x = .int k n := by
  have := (relV_scalar h rfl rfl).1; simpa [relC] using this
theorem relV_bool {b : Bool} {x : Value} (h : relV g w (.bool b) x) : x = .bool b := by
  have := (relV_scalar h rfl rfl).1; simpa [relC] using this
theorem relV_str {s : List UInt8} {x : Value} (h : relV g w (.str s) x) : x = .string ⟨s.toArray⟩ ∧ s.length ≤ maxL := by
  have := (relV_scalar h rfl rfl).1; simpa [relC] using this
theorem relV_ptr {i : Nat} {p : List Nat} {x : Value} (h : relV g w (.ptr (some (i, p))) x) :
    ∃ b sh o, g.objs[i]? = some (b, sh) ∧ sh.off p = some o ∧ x = .pointer (some ⟨b, o, none⟩) := by
  have := (relV_scalar h rfl rfl).1; simpa [relC] using this
theorem relV_nilptr {x : Value} (h : relV g w (.ptr none) x) : x = .pointer none := by
  have := (relV_scalar h rfl rfl).1; simpa [relC] using this
theorem relV_eptr {v : AV} {x : Value} (h : relV g w (.eptr v) x) : ∃ b o cv, x = .pointer (some ⟨b, o, none⟩) ∧ relC g w v cv ∧ rd w b o cv ∧ g.below b (o + cv.length) := by
  have := (relV_scalar h rfl rfl).1; simpa [relC] using this
theorem relV_slice {tk : Tk} {xs : List AV} {x : Value} (h : relV g w (.slice tk xs) x) :
    ∃ ad a c es css, x = .slice ad xs.length c ∧ Ad ad a c ∧ relEs g w es xs css ∧ xs.length ≤ c ∧ c ≤ maxL ∧ (a = none → c = 0) ∧
      (∀ b o, a = some (b, o) → css = [] ∨ (rd w b o css ∧ g.below b (o + css.length))) ∧ tkOk g a xs.length c es tk := by
  have := (relV_scalar h rfl rfl).1; simpa [relC] using this
theorem relV_tuple {vs : List AV} {x : Value} (h : relV g w (.tuple vs) x) : ∃ a, x = .tuple a ∧ relVs g w vs a.toList := by
  rcases h with h | ⟨vs', a, h, rfl, hr⟩ | ⟨hr, _⟩
  · cases h
  · cases h; exact ⟨a, rfl, hr⟩
  · simp [relC] at hr

theorem relV_of {v : AV} {x : Value} (h : relC g w v x.cells.toList) (ha : v.isAgg = vAgg x) : relV g w v x := .inr (.inr ⟨h, ha⟩)
theorem relV_mkInt (k : IntKind) (n : Int) : relV g w (.int k n) (.int k n) := relV_of (by simp [relC, Value.cells]) rfl
theorem relV_mkBool (b : Bool) : relV g w (.bool b) (.bool b) := relV_of (by simp [relC, Value.cells]) rfl
theorem relV_mkStr {s : List UInt8} (h : s.length ≤ maxL) : relV g w (.str s) (.string ⟨s.toArray⟩) := relV_of (by simp [relC, Value.cells, h]) rfl

/-! ### Parts -/

theorem relPs_nth : ∀ {ps : List AV} {cs : List Value} {i : Nat} {x : AV}, relPs g w ps cs → ps[i]? = some x →
    ∃ cx, relC g w x cx ∧ (∀ j, j < cx.length → cs[AV.sizes (ps.take i) + j]? = cx[j]?) ∧ AV.sizes (ps.take i) + cx.length ≤ cs.length
  | [], cs, i, x, h, hi => by simp at hi
  | p :: ps, cs, 0, x, h, hi => by
    simp only [relPs] at h; obtain ⟨c1, c2, rfl, h1, h2⟩ := h
    simp at hi; subst hi
    exact ⟨c1, h1, fun j hj => by simp [AV.sizes, List.getElem?_append_left hj], by simp [AV.sizes]⟩
  | p :: ps, cs, i + 1, x, h, hi => by
    simp only [relPs] at h; obtain ⟨c1, c2, rfl, h1, h2⟩ := h
    simp at hi
    obtain ⟨cx, hx, hc, hl⟩ := relPs_nth h2 hi
    have hs := relC_size h1
    refine ⟨cx, hx, fun j hj => ?_, ?_⟩
    · rw [← hc j hj, List.take_succ_cons, AV.sizes, ← hs, List.getElem?_append_right (by omega)]
      congr 1; omega
    · simp only [List.take_succ_cons, AV.sizes, List.length_append, ← hs]; omega

theorem relEs_nth {es : Nat} : ∀ {ps : List AV} {cs : List Value} {i : Nat} {x : AV}, relEs g w es ps cs → ps[i]? = some x →
    ∃ cx, relC g w x cx ∧ cx.length = es ∧ (∀ j, j < cx.length → cs[i * es + j]? = cx[j]?) ∧ i * es + es ≤ cs.length
  | [], cs, i, x, h, hi => by simp at hi
  | p :: ps, cs, 0, x, h, hi => by
    simp only [relEs] at h; obtain ⟨c1, c2, rfl, hl, h1, h2⟩ := h
    simp at hi; subst hi
    exact ⟨c1, h1, hl, fun j hj => by simp [List.getElem?_append_left hj], by simp [hl]⟩
  | p :: ps, cs, i + 1, x, h, hi => by
    simp only [relEs] at h; obtain ⟨c1, c2, rfl, hl, h1, h2⟩ := h
    simp at hi
    obtain ⟨cx, hx, hlx, hc, hle⟩ := relEs_nth h2 hi
    refine ⟨cx, hx, hlx, fun j hj => ?_, ?_⟩
    · rw [← hc j hj, List.getElem?_append_right (by rw [hl, Nat.add_mul]; omega)]
      congr 1; rw [hl, Nat.add_mul]; omega
    · simp only [List.length_append, hl, Nat.add_mul]; omega

theorem sizes_take (ps : List AV) (i : Nat) : Shape.sizes ((AV.shapes ps).take i) = AV.sizes (ps.take i) := by
  rw [← AV.sizes_shapes, AV.shapes_eq_map, AV.shapes_eq_map, List.map_take]

theorem shapes_get (ps : List AV) (i : Nat) : (AV.shapes ps)[i]? = (ps[i]?).map AV.shape := by
  rw [AV.shapes_eq_map, List.getElem?_map]

theorem at_nil (v : AV) : v.at [] = some v := by cases v <;> rfl

theorem at_off : ∀ {p : List Nat} {v u : AV}, v.at p = some u → ∃ o, v.shape.off p = some o
  | [], v, u, h => ⟨0, by cases v <;> simp [AV.shape, Shape.off]⟩
  | i :: p, .agg ps, u, h => by
    simp only [AV.at, Option.bind_eq_some_iff] at h
    obtain ⟨x, hx, hu⟩ := h
    obtain ⟨o, ho⟩ := at_off hu
    exact ⟨AV.sizes (ps.take i) + o, by simp [AV.shape, Shape.off, shapes_get, hx, ho, sizes_take]⟩
  | [i], .dig d, u, h => by
    simp only [AV.at, Option.map_eq_some_iff] at h
    obtain ⟨b, hb, _⟩ := h
    have : i < 32 := by have := (List.getElem?_eq_some_iff.1 hb).1; rw [d.h] at this; exact this
    exact ⟨i, by simp [AV.shape, Shape.off, this]⟩
  | i :: j :: p, .dig d, u, h => by simp [AV.at] at h
  | i :: p, .undef, u, h | i :: p, .bool _, u, h | i :: p, .int _ _, u, h | i :: p, .str _, u, h | i :: p, .ptr _, u, h | i :: p, .slice _ _, u, h | i :: p, .eptr _, u, h
  | i :: p, .mp _, u, h | i :: p, .fn _ _ _, u, h | i :: p, .nilFn, u, h | i :: p, .lit _, u, h | i :: p, .tuple _, u, h | i :: p, .iface _ _, u, h | i :: p, .nilIface, u, h => by simp [AV.at] at h

theorem at_rel : ∀ {p : List Nat} {v u : AV} {cs : List Value} {o : Nat}, relC g w v cs → v.at p = some u → v.shape.off p = some o →
    ∃ cu, relC g w u cu ∧ (∀ j, j < cu.length → cs[o + j]? = cu[j]?) ∧ o + cu.length ≤ cs.length
  | [], v, u, cs, o, h, hu, ho => by
    have h1 : v = u := by rw [at_nil] at hu; exact Option.some.inj hu
    have h2 : o = 0 := by cases v <;> simp_all [AV.shape, Shape.off]
    subst h1 h2; exact ⟨cs, h, fun j _ => by simp, by simp⟩
  | i :: p, .agg ps, u, cs, o, h, hu, ho => by
    simp only [AV.at, Option.bind_eq_some_iff] at hu
    obtain ⟨x, hx, hu⟩ := hu
    simp only [AV.shape, Shape.off, shapes_get, hx, Option.map_some, Option.bind_some, Option.map_eq_some_iff, sizes_take] at ho
    obtain ⟨o', ho', rfl⟩ := ho
    simp only [relC] at h
    obtain ⟨cx, hcx, hc, hl⟩ := relPs_nth h hx
    obtain ⟨cu, hcu, hc', hl'⟩ := at_rel hcx hu ho'
    refine ⟨cu, hcu, fun j hj => ?_, by omega⟩
    rw [← hc' j hj, ← hc (o' + j) (by omega)]; congr 1; omega
  | [i], .dig d, u, cs, o, h, hu, ho => by
    simp only [AV.at, Option.map_eq_some_iff] at hu
    obtain ⟨b, hb, rfl⟩ := hu
    have hi : i < 32 := by have := (List.getElem?_eq_some_iff.1 hb).1; rw [d.h] at this; exact this
    simp [AV.shape, Shape.off, hi] at ho
    subst ho
    simp only [relC] at h; subst h
    refine ⟨[.int .u8 b.toNat], by simp [relC], fun j hj => ?_, by simp [d.h]; omega⟩
    have : j = 0 := by simpa using hj
    subst this; simp [hb]
  | i :: j :: p, .dig d, u, cs, o, h, hu, ho => by simp [AV.at] at hu
  | i :: p, .undef, u, _, _, _, h, _ | i :: p, .bool _, u, _, _, _, h, _ | i :: p, .int _ _, u, _, _, _, h, _ | i :: p, .str _, u, _, _, _, h, _ | i :: p, .ptr _, u, _, _, _, h, _ | i :: p, .slice _ _, u, _, _, _, h, _ | i :: p, .eptr _, u, _, _, _, h, _
  | i :: p, .mp _, u, _, _, _, h, _ | i :: p, .fn _ _ _, u, _, _, _, h, _ | i :: p, .nilFn, u, _, _, _, h, _ | i :: p, .lit _, u, _, _, _, h, _ | i :: p, .tuple _, u, _, _, _, h, _ | i :: p, .iface _ _, u, _, _, _, h, _ | i :: p, .nilIface, u, _, _, _, h, _ => by simp [AV.at] at h

/-! ### Types' facts -/

theorem info_of {t : TypeId} {d : TypeDesc} (h : P.underlying t = some d) : ∃ i, P.info? t = some i ∧ i.size = P.cellsOf t ∧ i.bytes = P.bytesOf t := by
  unfold Program.underlying at h
  cases hi : P.info? t with
  | none => rw [hi] at h; simp at h
  | some i => exact ⟨i, rfl, by simp [Program.cellsOf, hi], by simp [Program.bytesOf, hi]⟩

theorem run_sizeOf' {t : TypeId} {d : TypeDesc} (h : P.underlying t = some d) (w : World) : (sizeOf t).run P w = .ok (P.cellsOf t) w := by
  obtain ⟨i, hi, hs, _⟩ := info_of h
  simp [sizeOf, typeInfo, hi, hs]

theorem run_isAgg' {t : TypeId} {b : Bool} (h : aggT P t = some b) (w : World) : (isAgg t).run P w = .ok b w := by
  unfold aggT at h
  cases hd : P.underlying t with
  | none => simp [hd] at h
  | some d =>
    simp only [hd, Option.map_some, Option.some.injEq] at h
    simp only [isAgg, Sem.run_bind, run_underlying hd, Result.andThen_ok]
    cases d <;> simp_all

theorem agg_under {t : TypeId} {b : Bool} (h : aggT P t = some b) : ∃ d, P.underlying t = some d := by
  unfold aggT at h
  cases hd : P.underlying t with
  | none => simp [hd] at h
  | some d => exact ⟨d, rfl⟩

theorem rd_cell {b o : Nat} {cs : List Value} (h : rd w b o cs) (j : Nat) (v : Value) (hj : cs[j]? = some v) : w.cell? ((⟨b, o, none⟩ : Addr).add j) = some v := by
  obtain ⟨c, e, fr, hc, hk⟩ := h
  have hl : j < cs.length := (List.getElem?_eq_some_iff.1 hj).1
  have : (⟨b, o, none⟩ : Addr).add j = ⟨b, o + j, none⟩ := by unfold Addr.add; split <;> simp_all
  rw [this]
  simp [World.cell?, hc, hk j hl, hj]

theorem relC_scalar {v : AV} {cs : List Value} (h : relC g w v cs) (ha : v.isAgg = false) : ∃ x, cs = [x] := by
  have hs := relC_size h
  have : v.size = 1 := by cases v <;> simp_all [AV.isAgg, AV.size]
  rw [this] at hs
  exact List.length_eq_one_iff.1 hs

mutual
theorem relC_cell1 : ∀ {v : AV} {cs : List Value}, relC g w v cs → ∀ c ∈ cs, c.oneCell' = true
  | .undef, cs, h => by simp only [relC] at h; obtain ⟨c, rfl, hc⟩ := h; simpa using hc
  | .bool _, cs, h | .int _ _, cs, h | .nilFn, cs, h | .nilIface, cs, h => by simp only [relC] at h; subst h; simp [Value.oneCell']
  | .str _, cs, h => by simp only [relC] at h; obtain ⟨rfl, _⟩ := h; simp [Value.oneCell']
  | .lit _, cs, h => by simp only [relC] at h; obtain ⟨rfl, h⟩ := h; simpa using h
  | .ptr none, cs, h => by simp only [relC] at h; subst h; simp [Value.oneCell']
  | .ptr (some (i, p)), cs, h => by simp only [relC] at h; obtain ⟨_, _, _, _, _, rfl⟩ := h; simp [Value.oneCell']
  | .slice _ _, cs, h => by simp only [relC] at h; obtain ⟨_, _, _, _, _, rfl, _⟩ := h; simp [Value.oneCell']
  | .eptr _, cs, h => by simp only [relC] at h; obtain ⟨_, _, _, rfl, _⟩ := h; simp [Value.oneCell']
  | .mp none, cs, h => by simp only [relC] at h; subst h; simp [Value.oneCell']
  | .arr _ _ _, cs, h => by simp only [relC] at h; obtain ⟨_, _, _, _, _, _, rfl, _⟩ := h; simp [Value.oneCell']
  | .mp (some _), cs, h => by simp only [relC] at h; obtain ⟨_, _, _, rfl⟩ := h; simp [Value.oneCell']
  | .fn _ _ _, cs, h => by simp only [relC] at h; obtain ⟨_, _, rfl, _⟩ := h; simp [Value.oneCell']
  | .agg ps, cs, h => by simp only [relC] at h; exact relPs_cell1 h
  | .dig d, cs, h => by simp only [relC] at h; subst h; intro c hc; simp at hc; obtain ⟨b, _, rfl⟩ := hc; rfl
  | .tuple _, cs, h => by simp only [relC] at h
  | .iface _ _, cs, h => by simp only [relC] at h; obtain ⟨_, rfl, _⟩ := h; simp [Value.oneCell']
theorem relPs_cell1 : ∀ {ps : List AV} {cs : List Value}, relPs g w ps cs → ∀ c ∈ cs, c.oneCell' = true
  | [], cs, h => by simp only [relPs] at h; subst h; simp
  | p :: ps, cs, h => by
    simp only [relPs] at h; obtain ⟨c1, c2, rfl, h1, h2⟩ := h
    intro c hc
    rcases List.mem_append.1 hc with hc | hc
    · exact relC_cell1 h1 c hc
    · exact relPs_cell1 h2 c hc
end

theorem vAgg_one {c : Value} (h : c.oneCell' = true) : vAgg c = false := by cases c <;> simp_all [Value.oneCell', vAgg]

theorem run_loadVar' {t : TypeId} {b o : Nat} {v : AV} {cv : List Value} (hf : fits P t v) (hv : relC g w v cv) (hr : rd w b o cv) :
    ∃ x, (loadVar t ⟨b, o, none⟩).run P w = .ok x w ∧ relV g w v x := by
  obtain ⟨ha, hs⟩ := hf
  obtain ⟨d, hd⟩ := agg_under ha
  have hc := rd_cell hr
  cases hg : v.isAgg with
  | true =>
    rw [hg] at ha
    refine ⟨.agg cv.toArray, ?_, relV_of (by simpa [Value.cells] using hv) hg⟩
    have hl := run_loadCells_list (P := P) w ⟨b, o, none⟩ cv hc
    rw [relC_size hv, ← hs] at hl
    simp [loadVar, run_isAgg' ha, run_sizeOf' hd, hl]
  | false =>
    rw [hg] at ha
    obtain ⟨x, rfl⟩ := relC_scalar hv hg
    have h1 := relC_cell1 hv x (by simp)
    refine ⟨x, ?_, relV_of ?_ ?_⟩
    · have h0 := hc 0 x rfl
      simp [Addr.add] at h0
      simp [loadVar, run_isAgg' ha, h0]
    · rw [cells_one (vAgg_one h1)]; exact hv
    · rw [hg, vAgg_one h1]

end Go.Aff

namespace Go.Aff

variable {g g' : G} {w w' : World} {σ σ' : AST} {P : Program}

def setBlk (w : World) (b : Nat) (o : Obj) : World := { w with heap := w.heap.setIfInBounds b o }

theorem setBlk_same {b : Nat} {o : Obj} (h : b < w.heap.size) : (setBlk w b o).heap[b]? = some o := by
  simp [setBlk, h]
theorem setBlk_other {b k : Nat} {o : Obj} (h : k ≠ b) : (setBlk w b o).heap[k]? = w.heap[k]? := by
  simp only [setBlk, Array.getElem?_setIfInBounds]; rw [if_neg (fun e => h e.symm)]
theorem lt_of_blk {b : Nat} {o : Obj} (h : w.heap[b]? = some o) : b < w.heap.size := (Array.getElem?_eq_some_iff.1 h).1

theorem alloc_old {b : Nat} {o : Obj} (h : b < w.heap.size) : (w.alloc o).heap[b]? = w.heap[b]? := by
  show (w.heap.push o)[b]? = _
  rw [Array.getElem?_push, if_neg (by omega)]
theorem alloc_new {o : Obj} : (w.alloc o).heap[w.heap.size]? = some o := by
  show (w.heap.push o)[w.heap.size]? = _
  simp

theorem objIn_mono (h : Ev g w g' w') {b : Nat} {sh : Shape} {o : AObj} (hb : w'.heap[b]? = w.heap[b]?) (ho : objIn g w b sh o) : objIn g' w' b sh o := by
  cases o with
  | cells v => obtain ⟨c, e, hc, hr, hs⟩ := ho; exact ⟨c, e, hb.trans hc, relC_mono h hr, hs⟩
  | map es ck =>
    obtain ⟨me, hc, hl, hk, hb', hu⟩ := ho
    exact ⟨me, hb.trans hc, hl, fun i e m h1 h2 => ⟨(hk i e m h1 h2).1, ⟨relC_mono h (hk i e m h1 h2).2.1.1, (hk i e m h1 h2).2.1.2⟩, ⟨relC_mono h (hk i e m h1 h2).2.2.1, (hk i e m h1 h2).2.2.2⟩⟩, hb', hu⟩
  | gone => trivial
  | pin l o vs xs => exact ⟨ho.1, hb.trans ho.2.1, fun i v x h1 h2 => (ho.2.2 i v x h1 h2).imp id fun ⟨a, b⟩ => ⟨relC_mono h a, b⟩⟩

theorem ev_obj (hI : Inv g σ w) {b : Nat} {o : Obj} (hb : g.base ≤ b) (hl : g.lim b = none) : Ev g w g (setBlk w b o) where
  os := rfl
  tape := rfl
  output := rfl
  size := by simp [setBlk]
  base := rfl
  old k hk := setBlk_other (by omega)
  objs _ _ h := h
  lim k L h := ⟨⟨L, h, Nat.le_refl _⟩, fun c e fr hc => ⟨c, e, fr, by rw [setBlk_other (by rintro rfl; rw [hl] at h; cases h)]; exact hc, fun _ _ => rfl⟩⟩
  toks t e h := ⟨e, h, rfl, Nat.le_refl _, fun _ => rfl, .inl rfl⟩

theorem inv_setObj (hI : Inv g σ w) {i : Nat} {o o' : AObj} {b : Nat} {sh : Shape} {B : Obj} (hi : σ.objs[i]? = some o) (hlv : o.live = true) (hg : g.objs[i]? = some (b, sh))
    (ho' : objIn g (setBlk w b B) b sh o') : Ev g w g (setBlk w b B) ∧ Inv g (σ.set i o') (setBlk w b B) := by
  obtain ⟨b1, sh1, h1, hbase, hlim, hin⟩ := hI.obj i o hi hlv
  rw [hg] at h1; cases h1
  have hE := ev_obj (o := B) hI hbase hlim
  refine ⟨hE, ?_⟩
  have hlen : i < σ.objs.length := (List.getElem?_eq_some_iff.1 hi).1
  refine { base := Nat.le_trans hI.base hE.size, nobj := by simp [AST.set, hI.nobj], obj := ?_, inj := ?_, rows := ?_, ntok := hI.ntok, tok := ?_, tinj := hI.tinj }
  · intro j q hq hql
    simp only [AST.set, List.getElem?_set, hlen, if_true] at hq
    split at hq
    · rename_i e; subst e
      cases hq
      exact ⟨b, sh, hg, hbase, hlim, ho'⟩
    · rename_i hne
      obtain ⟨b2, sh2, h2, hb2, hl2, hin2⟩ := hI.obj j q hq hql
      have hbb : b2 ≠ b := by
        rintro rfl
        exact hne (hI.inj i j o q b2 sh sh2 hi hq hlv hql hg h2)
      exact ⟨b2, sh2, h2, hb2, hl2, objIn_mono hE (setBlk_other hbb) hin2⟩
  · intro j k q q' b2 s2 s2' hq hq' hql hql' h2 h2'
    simp only [AST.set, List.getElem?_set] at hq hq'
    have fix : ∀ (j : Nat) (q : AObj) (b2 : Nat) (s2 : Shape), (if i = j then (if i < σ.objs.length then some o' else none) else σ.objs[j]?) = some q → q.live = true → g.objs[j]? = some (b2, s2) → ∃ q0, σ.objs[j]? = some q0 ∧ q0.live = true := by
      intro j q b2 s2 h hl _
      split at h
      · rename_i e; subst e; exact ⟨o, hi, hlv⟩
      · exact ⟨q, h, hl⟩
    obtain ⟨q0, hq0, hl0⟩ := fix j q b2 s2 hq hql h2
    obtain ⟨q1, hq1, hl1⟩ := fix k q' b2 s2' hq' hql' h2'
    exact hI.inj j k q0 q1 b2 s2 s2' hq0 hq1 hl0 hl1 h2 h2'
  · intro k L hk
    obtain ⟨h1, c, e, fr, hc, hL⟩ := hI.rows k L hk
    exact ⟨h1, c, e, fr, by rw [setBlk_other (by rintro rfl; rw [hlim] at hk; cases hk)]; exact hc, hL⟩
  · intro t e ht
    obtain ⟨h1, h2, h3, h4, h5⟩ := hI.tok t e ht
    refine ⟨h1, h2, h3, h4, fun bb oo ha hlt => ?_⟩
    obtain ⟨hl2, c, el, fr, hc, hsz, hfr⟩ := h5 bb oo ha hlt
    exact ⟨hl2, c, el, fr, by rw [setBlk_other (by rintro rfl; rw [hlim] at hl2; cases hl2)]; exact hc, hsz, hfr⟩

theorem lim_fresh (hI : Inv g σ w) : g.lim w.heap.size = none := by
  cases h : g.lim w.heap.size with
  | none => rfl
  | some L => obtain ⟨_, c, e, fr, hc, _⟩ := hI.rows _ L h; have := lt_of_blk hc; omega

theorem ev_alloc (hI : Inv g σ w) (o : Obj) (objs' : List (Nat × Shape)) (lim' : Nat → Option Nat) (toks' : List TokE)
    (h1 : ∀ (i : Nat) x, g.objs[i]? = some x → objs'[i]? = some x) (h2 : ∀ b L, g.lim b = some L → lim' b = some L) (h3 : ∀ (t : Nat) e, g.toks[t]? = some e → ∃ e', toks'[t]? = some e' ∧ e'.es = e.es ∧ e.len ≤ e'.len ∧ (e'.len = e.len → e' = e) ∧ (e'.a = e.a ∨ ∀ b o, e'.a = some (b, o) → w.heap.size ≤ b ∧ o = 0)) :
    Ev g w { g with objs := objs', lim := lim', toks := toks' } (w.alloc o) where
  os := rfl
  tape := rfl
  output := rfl
  size := by simp
  base := rfl
  old b hb := alloc_old (Nat.lt_of_lt_of_le hb hI.base)
  objs := h1
  lim b L h := ⟨⟨L, h2 b L h, Nat.le_refl _⟩, fun c e fr hc => ⟨c, e, fr, by rw [alloc_old (lt_of_blk hc)]; exact hc, fun _ _ => rfl⟩⟩
  toks := h3

theorem objs_lt (hI : Inv g σ w) {i : Nat} {o : AObj} {b : Nat} {sh : Shape} (hi : σ.objs[i]? = some o) (hl : o.live = true) (hg : g.objs[i]? = some (b, sh)) : b < w.heap.size := by
  obtain ⟨b1, sh1, h1, _, _, hin⟩ := hI.obj i o hi hl
  rw [hg] at h1; cases h1
  cases o with
  | cells v => obtain ⟨c, e, hc, _⟩ := hin; exact lt_of_blk hc
  | map es ck => obtain ⟨me, hc, _⟩ := hin; exact lt_of_blk hc
  | gone => simp [AObj.live] at hl
  | pin l o vs xs => exact lt_of_blk hin.2.1

theorem getElem?_append_some {α : Type} {l l' : List α} {i : Nat} {x : α} (h : l[i]? = some x) : (l ++ l')[i]? = some x := by
  rw [List.getElem?_append_left (List.getElem?_eq_some_iff.1 h).1]; exact h

theorem inv_push (hI : Inv g σ w) {o : AObj} {B : Obj} {sh : Shape} (ho : ∀ g', Ev g w g' (w.alloc B) → objIn g' (w.alloc B) w.heap.size sh o) :
    Ev g w { g with objs := g.objs ++ [(w.heap.size, sh)] } (w.alloc B) ∧ Inv { g with objs := g.objs ++ [(w.heap.size, sh)] } (σ.push o) (w.alloc B) := by
  have hE : Ev g w { g with objs := g.objs ++ [(w.heap.size, sh)] } (w.alloc B) :=
    ev_alloc hI B _ g.lim g.toks (fun i x h => getElem?_append_some h) (fun _ _ h => h) (fun t e h => ⟨e, h, rfl, Nat.le_refl _, fun _ => rfl, .inl rfl⟩)
  refine ⟨hE, ?_⟩
  have cases_ : ∀ (j : Nat) (q : AObj), (σ.objs ++ [o])[j]? = some q → (σ.objs[j]? = some q) ∨ (j = σ.objs.length ∧ q = o) := by
    intro j q h
    rw [List.getElem?_append] at h
    split at h
    · exact .inl h
    · rename_i hj
      right
      have : j - σ.objs.length = 0 := by
        by_cases e : j - σ.objs.length = 0
        · exact e
        · rw [List.getElem?_eq_none (by simp; omega)] at h; cases h
      rw [this] at h; simp at h; exact ⟨by omega, h.symm⟩
  refine { base := Nat.le_trans hI.base hE.size, nobj := by simp [AST.push, hI.nobj], obj := ?_, inj := ?_, rows := ?_, ntok := hI.ntok, tok := ?_, tinj := hI.tinj }
  · intro j q hq hql
    rcases cases_ j q hq with h | ⟨rfl, rfl⟩
    · obtain ⟨b2, sh2, h2, hb2, hl2, hin2⟩ := hI.obj j q h hql
      exact ⟨b2, sh2, getElem?_append_some h2, hb2, hl2, objIn_mono hE (alloc_old (objs_lt hI h hql h2)) hin2⟩
    · exact ⟨w.heap.size, sh, by rw [hI.nobj]; simp, hI.base, (lim_fresh hI : g.lim w.heap.size = none), ho _ hE⟩
  · intro j k q q' b2 s2 s2' hq hq' hql hql' h2 h2'
    simp only at h2 h2'
    rcases cases_ j q hq with h | ⟨rfl, rfl⟩ <;> rcases cases_ k q' hq' with h' | ⟨rfl, rfl⟩
    · have hj : j < g.objs.length := by rw [← hI.nobj]; exact (List.getElem?_eq_some_iff.1 h).1
      have hk : k < g.objs.length := by rw [← hI.nobj]; exact (List.getElem?_eq_some_iff.1 h').1
      rw [List.getElem?_append_left hj] at h2
      rw [List.getElem?_append_left hk] at h2'
      exact hI.inj j k q q' b2 s2 s2' h h' hql hql' h2 h2'
    · have hj : j < g.objs.length := by rw [← hI.nobj]; exact (List.getElem?_eq_some_iff.1 h).1
      rw [List.getElem?_append_left hj] at h2
      rw [hI.nobj] at h2'; simp at h2'
      have := objs_lt hI h hql h2
      omega
    · have hk : k < g.objs.length := by rw [← hI.nobj]; exact (List.getElem?_eq_some_iff.1 h').1
      rw [List.getElem?_append_left hk] at h2'
      rw [hI.nobj] at h2; simp at h2
      have := objs_lt hI h' hql' h2'
      omega
    · rfl
  · intro k L hk
    obtain ⟨h1, c, e, fr, hc, hL⟩ := hI.rows k L hk
    exact ⟨h1, c, e, fr, by rw [alloc_old (lt_of_blk hc)]; exact hc, hL⟩
  · intro t e ht
    obtain ⟨h1, h2, h3, h4, h5⟩ := hI.tok t e ht
    refine ⟨h1, h2, h3, h4, fun bb oo ha hlt => ?_⟩
    obtain ⟨hl2, c, el, fr, hc, hsz, hfr⟩ := h5 bb oo ha hlt
    exact ⟨hl2, c, el, fr, by rw [alloc_old (lt_of_blk hc)]; exact hc, hsz, hfr⟩

def G.row (g : G) (b n : Nat) : G := { g with lim := fun k => if k = b then some n else g.lim k }

theorem inv_row (hI : Inv g σ w) {c : Array Value} {e : TypeId} {fr : Nat × Nat} {n : Nat} (hn : n ≤ c.size) (hfr : fr.1 = fr.2 ∨ c.size ≤ fr.1 := by exact .inl rfl) :
    Ev g w (g.row w.heap.size n) (w.alloc (.cells c e fr)) ∧ Inv (g.row w.heap.size n) σ (w.alloc (.cells c e fr)) := by
  have hfresh := lim_fresh hI
  have hlim : ∀ b L, g.lim b = some L → (g.row w.heap.size n).lim b = some L := by
    intro b L h
    simp only [G.row]
    rw [if_neg (by rintro rfl; rw [hfresh] at h; cases h)]; exact h
  have hE : Ev g w (g.row w.heap.size n) (w.alloc (.cells c e fr)) :=
    ev_alloc hI _ g.objs _ g.toks (fun i x h => h) hlim (fun t e h => ⟨e, h, rfl, Nat.le_refl _, fun _ => rfl, .inl rfl⟩)
  refine ⟨hE, ?_⟩
  refine { base := Nat.le_trans hI.base hE.size, nobj := hI.nobj, obj := ?_, inj := hI.inj, rows := ?_, ntok := hI.ntok, tok := ?_, tinj := hI.tinj }
  · intro j q hq hql
    obtain ⟨b2, sh2, h2, hb2, hl2, hin2⟩ := hI.obj j q hq hql
    have hlt := objs_lt hI hq hql h2
    exact ⟨b2, sh2, h2, hb2, by simp only [G.row]; rw [if_neg (by omega)]; exact hl2, objIn_mono hE (alloc_old hlt) hin2⟩
  · intro k L hk
    simp only [G.row] at hk
    split at hk
    · rename_i e; subst e; cases hk
      exact ⟨hI.base, c, e, fr, alloc_new, hn, hfr⟩
    · obtain ⟨h1, c', e', fr', hc, hL⟩ := hI.rows k L hk
      exact ⟨h1, c', e', fr', by rw [alloc_old (lt_of_blk hc)]; exact hc, hL⟩
  · intro t e ht
    obtain ⟨h1, h2, h3, h4, h5⟩ := hI.tok t e ht
    refine ⟨h1, h2, h3, h4, fun bb oo ha hlt => ?_⟩
    obtain ⟨hl2, c', el, fr', hc, hsz, hfr⟩ := h5 bb oo ha hlt
    exact ⟨hlim _ _ hl2, c', el, fr', by rw [alloc_old (lt_of_blk hc)]; exact hc, hsz, hfr⟩

theorem ev_drew (g : G) (w : World) : Ev g w g w.drew :=
  ⟨rfl, rfl, rfl, Nat.le_refl _, rfl, fun _ _ => rfl, fun _ _ h => h, fun b L h => ⟨⟨L, h, Nat.le_refl _⟩, fun c e fr hc => ⟨c, e, fr, hc, fun _ _ => rfl⟩⟩, fun t e h => ⟨e, h, rfl, Nat.le_refl _, fun _ => rfl, .inl rfl⟩⟩

theorem inv_drew (hI : Inv g σ w) : Inv g σ w.drew := by
  have hE := ev_drew g w
  exact { base := hI.base, nobj := hI.nobj, obj := fun j q hq hql => by
            obtain ⟨b2, sh2, h2, hb2, hl2, hin2⟩ := hI.obj j q hq hql
            exact ⟨b2, sh2, h2, hb2, hl2, objIn_mono hE rfl hin2⟩, inj := hI.inj, rows := hI.rows, ntok := hI.ntok, tok := hI.tok, tinj := hI.tinj }

theorem inv_tok (hI : Inv g σ w) (e : TokE) (h1 : e.len ≤ e.cap) (h2 : e.cap ≤ maxL) (h3 : e.a = none → e.cap = 0)
    (h4 : ∀ b o, e.a = some (b, o) → e.len < e.cap → g.lim b = some (o + e.len * e.es) ∧ (∃ c el fr, w.heap[b]? = some (.cells c el fr) ∧ o + e.cap * e.es ≤ c.size ∧ (fr.1 = fr.2 ∨ c.size ≤ fr.1)) ∧
      ∀ (t : Nat) e', g.toks[t]? = some e' → ∀ o', e'.a = some (b, o') → ¬ e'.len < e'.cap) :
    Ev g w { g with toks := g.toks ++ [e] } w ∧ Inv { g with toks := g.toks ++ [e] } (σ.tok e.len e.es) w := by
  have hE : Ev g w { g with toks := g.toks ++ [e] } w :=
    ⟨rfl, rfl, rfl, Nat.le_refl _, rfl, fun _ _ => rfl, fun _ _ h => h, fun b L h => ⟨⟨L, h, Nat.le_refl _⟩, fun c e fr hc => ⟨c, e, fr, hc, fun _ _ => rfl⟩⟩,
      fun t e h => ⟨e, getElem?_append_some h, rfl, Nat.le_refl _, fun _ => rfl, .inl rfl⟩⟩
  refine ⟨hE, ?_⟩
  have cases_ : ∀ (j : Nat) (q : TokE), (g.toks ++ [e])[j]? = some q → (g.toks[j]? = some q) ∨ (j = g.toks.length ∧ q = e) := by
    intro j q h
    rw [List.getElem?_append] at h
    split at h
    · exact .inl h
    · right
      have : j - g.toks.length = 0 := by
        by_cases e : j - g.toks.length = 0
        · exact e
        · rw [List.getElem?_eq_none (by simp; omega)] at h; cases h
      rw [this] at h; simp at h; exact ⟨by omega, h.symm⟩
  refine { base := hI.base, nobj := hI.nobj, obj := ?_, inj := hI.inj, rows := hI.rows, ntok := by simp [AST.tok, hI.ntok], tok := ?_, tinj := ?_ }
  · intro j q hq hql
    obtain ⟨b2, sh2, h2', hb2, hl2, hin2⟩ := hI.obj j q hq hql
    exact ⟨b2, sh2, h2', hb2, hl2, objIn_mono hE rfl hin2⟩
  · intro t q hq
    rcases cases_ t q hq with h | ⟨rfl, rfl⟩
    · obtain ⟨k1, k2, k3, k4, k5⟩ := hI.tok t q h
      exact ⟨getElem?_append_some k1, k2, k3, k4, k5⟩
    · refine ⟨by simp [AST.tok, ← hI.ntok], h1, h2, h3, fun b o ha hlt => ?_⟩
      obtain ⟨p1, p2, _⟩ := h4 b o ha hlt
      exact ⟨p1, p2⟩
  · intro t u q q' b o o' ht hu ha ha' hl hl'
    rcases cases_ t q ht with h | ⟨rfl, rfl⟩ <;> rcases cases_ u q' hu with h' | ⟨rfl, rfl⟩
    · exact hI.tinj t u q q' b o o' h h' ha ha' hl hl'
    · exact absurd hl ((h4 b o' ha' hl').2.2 t q h o ha)
    · exact absurd hl' ((h4 b o ha hl).2.2 u q' h' o' ha')
    · rfl

end Go.Aff

namespace Go.Aff

variable {g g' : G} {w w' : World} {σ σ' : AST} {P : Program}

def Does (P : Program) (g : G) (w : World) (s : Sem Value) (K : AV → AST → Prop) : Prop :=
  ∃ x w' g' v σ', s.run P w = .ok x w' ∧ Ev g w g' w' ∧ Inv g' σ' w' ∧ relV g' w' v x ∧ K v σ'

def DoesU (P : Program) (g : G) (w : World) (s : Sem Unit) (K : AST → Prop) : Prop :=
  ∃ w' g' σ', s.run P w = .ok () w' ∧ Ev g w g' w' ∧ Inv g' σ' w' ∧ K σ'

theorem Does.pure {s : Sem Value} {K : AV → AST → Prop} {x : Value} {v : AV} (hI : Inv g σ w) (h : s.run P w = .ok x w) (hr : relV g w v x) (hk : K v σ) : Does P g w s K :=
  ⟨x, w, g, v, σ, h, Ev.refl _ _, hI, hr, hk⟩

theorem obj_cells (hI : Inv g σ w) {i : Nat} {v : AV} (h : σ.objs[i]? = some (.cells v)) {b : Nat} {sh : Shape} (hg : g.objs[i]? = some (b, sh)) :
    g.base ≤ b ∧ g.lim b = none ∧ ∃ c e, w.heap[b]? = some (.cells c e) ∧ relC g w v c.toList ∧ v.shape = sh := by
  obtain ⟨b1, sh1, h1, hb, hl, hin⟩ := hI.obj i _ h rfl
  rw [hg] at h1; cases h1
  exact ⟨hb, hl, hin⟩

theorem load_does (hI : Inv g σ w) {t : TypeId} {a : AV} {x : Value} {K : AV → AST → Prop} (ha : relV g w a x) (h : loadW P σ t a (fun v => K v σ)) :
    Does P g w (Instr.loadAt t x) K := by
  unfold loadW at h
  split at h
  · rename_i i p
    split at h
    · rename_i v hobj
      split at h
      · rename_i u hat
        obtain ⟨b, sh, o, hg, ho, rfl⟩ := relV_ptr ha
        obtain ⟨_, _, c, e, hc, hr, hs⟩ := obj_cells hI hobj hg
        obtain ⟨cu, hcu, hcell, _⟩ := at_rel hr hat (hs ▸ ho)
        have hrd : rd w b o cu := ⟨c, e, (0, 0), hc, fun j hj => by rw [← hcell j hj]; simp⟩
        obtain ⟨y, hy, hv⟩ := run_loadVar' h.1 hcu hrd
        exact Does.pure hI (by simp [Instr.loadAt, Instr.sureAddr, hy]) hv h.2
      · exact h.elim
    · exact h.elim
  · rename_i v
    obtain ⟨b, o, cv, rfl, hv, hr, _⟩ := relV_eptr ha
    obtain ⟨y, hy, hv'⟩ := run_loadVar' h.1 hv hr
    exact Does.pure hI (by simp [Instr.loadAt, Instr.sureAddr, hy]) hv' h.2
  · exact h.elim

/-! ### Stores -/

def splice (cs : List Value) (o : Nat) (cx : List Value) : List Value := cs.take o ++ cx ++ cs.drop (o + cx.length)

theorem splice_get {cs cx : List Value} {o : Nat} (h : o + cx.length ≤ cs.length) (j : Nat) :
    (splice cs o cx)[j]? = if o ≤ j ∧ j < o + cx.length then cx[j - o]? else cs[j]? := by
  unfold splice
  rw [List.append_assoc, List.getElem?_append]
  have h1 : (cs.take o).length = o := by rw [List.length_take]; omega
  rw [h1]
  split
  · rw [if_neg (by omega), List.getElem?_take, if_pos (by omega)]
  · rw [List.getElem?_append]
    split
    · rw [if_pos (by omega)]
    · rw [if_neg (by omega), List.getElem?_drop]; congr 1; omega

theorem splice_length {cs cx : List Value} {o : Nat} (h : o + cx.length ≤ cs.length) : (splice cs o cx).length = cs.length := by
  simp [splice]; omega

theorem relPs_set : ∀ {ps : List AV} {cs : List Value} {i : Nat} {u x : AV} {cx : List Value}, relPs g w ps cs → ps[i]? = some u → relC g w x cx → x.size = u.size →
    relPs g w (ps.set i x) (splice cs (AV.sizes (ps.take i)) cx)
  | [], cs, i, u, x, cx, h, hi, _, _ => by simp at hi
  | p :: ps, cs, 0, u, x, cx, h, hi, hx, hs => by
    simp only [relPs] at h; obtain ⟨c1, c2, rfl, h1, h2⟩ := h
    simp at hi; subst hi
    simp only [List.set_cons_zero, relPs, List.take_zero, AV.sizes, splice, List.nil_append]
    refine ⟨cx, c2, ?_, hx, h2⟩
    have : cx.length = c1.length := by rw [relC_size hx, relC_size h1, hs]
    simp [this]
  | p :: ps, cs, i + 1, u, x, cx, h, hi, hx, hs => by
    simp only [relPs] at h; obtain ⟨c1, c2, rfl, h1, h2⟩ := h
    simp at hi
    have ih := relPs_set h2 hi hx hs
    simp only [List.set_cons_succ, relPs, List.take_succ_cons, AV.sizes, ← relC_size h1]
    refine ⟨c1, _, ?_, h1, ih⟩
    simp only [splice, List.take_append, List.drop_append]
    have e1 : c1.take (c1.length + AV.sizes (ps.take i)) = c1 := List.take_of_length_le (by omega)
    have e2 : c1.drop (c1.length + AV.sizes (ps.take i) + cx.length) = [] := List.drop_of_length_le (by omega)
    have e3 : c1.length + AV.sizes (ps.take i) - c1.length = AV.sizes (ps.take i) := by omega
    have e4 : c1.length + AV.sizes (ps.take i) + cx.length - c1.length = AV.sizes (ps.take i) + cx.length := by omega
    rw [e1, e2, e3, e4]; simp

theorem u8_toNat {n : Int} (h0 : 0 ≤ n) (h1 : n < 256) : (((UInt8.ofNat n.toNat).toNat : Nat) : Int) = n := by
  have : n.toNat < 256 := by omega
  simp [UInt8.toNat_ofNat', Nat.mod_eq_of_lt this]; omega

theorem setAt_shape : ∀ {p : List Nat} {v u x : AV}, v.at p = some u → x.shape = u.shape → setOk v p x → (v.setAt p x).shape = v.shape
  | [], v, u, x, hu, hs, _ => by
    have h1 : v = u := by rw [at_nil] at hu; exact Option.some.inj hu
    subst h1; simpa [AV.setAt] using hs
  | i :: p, .agg ps, u, x, hu, hs, hk => by
    simp only [AV.at, Option.bind_eq_some_iff] at hu
    obtain ⟨y, hy, hu⟩ := hu
    simp only [setOk] at hk
    have ih := setAt_shape hu hs (hk y hy)
    simp only [AV.setAt, hy, AV.shape, AV.shapes_eq_map, List.map_set, ih]
    congr 1
    apply List.ext_getElem?
    intro j
    rw [List.getElem?_set]
    split
    · rename_i e; subst e
      split
      · rw [List.getElem?_map, hy]; rfl
      · rename_i hlt; rw [List.getElem?_map, hy] ; simp at hlt; have := (List.getElem?_eq_some_iff.1 hy).1; omega
    · rfl
  | [i], .dig d, u, .int k n, hu, hs, hk => by
    simp only [setOk] at hk; obtain ⟨rfl, _, _⟩ := hk
    simp [AV.setAt, AV.shape]
  | [i], .dig d, u, .undef, hu, hs, hk | [i], .dig d, u, .bool _, hu, hs, hk | [i], .dig d, u, .str _, hu, hs, hk | [i], .dig d, u, .ptr _, hu, hs, hk | [i], .dig d, u, .slice _ _, hu, hs, hk
  | [i], .dig d, u, .eptr _, hu, hs, hk | [i], .dig d, u, .mp _, hu, hs, hk | [i], .dig d, u, .fn _ _ _, hu, hs, hk | [i], .dig d, u, .nilFn, hu, hs, hk | [i], .dig d, u, .lit _, hu, hs, hk | [i], .dig d, u, .agg _, hu, hs, hk
  | [i], .dig d, u, .dig _, hu, hs, hk | [i], .dig d, u, .tuple _, hu, hs, hk | [i], .dig d, u, .iface _ _, hu, hs, hk | [i], .dig d, u, .nilIface, hu, hs, hk => by simp [setOk] at hk
  | i :: j :: p, .dig d, u, x, hu, hs, hk => by simp [AV.at] at hu
  | i :: p, .undef, u, _, h, _, _ | i :: p, .bool _, u, _, h, _, _ | i :: p, .int _ _, u, _, h, _, _ | i :: p, .str _, u, _, h, _, _ | i :: p, .ptr _, u, _, h, _, _ | i :: p, .slice _ _, u, _, h, _, _ | i :: p, .eptr _, u, _, h, _, _
  | i :: p, .mp _, u, _, h, _, _ | i :: p, .fn _ _ _, u, _, h, _, _ | i :: p, .nilFn, u, _, h, _, _ | i :: p, .lit _, u, _, h, _, _ | i :: p, .tuple _, u, _, h, _, _ | i :: p, .iface _ _, u, _, h, _, _ | i :: p, .nilIface, u, _, h, _, _ => by simp [AV.at] at h

theorem shape_size {x u : AV} (h : x.shape = u.shape) : x.size = u.size := by rw [← AV.size_shape, ← AV.size_shape, h]

theorem setAt_rel : ∀ {p : List Nat} {v u x : AV} {cs cx : List Value} {o : Nat}, relC g w v cs → v.at p = some u → v.shape.off p = some o → relC g w x cx → x.shape = u.shape → setOk v p x →
    relC g w (v.setAt p x) (splice cs o cx)
  | [], v, u, x, cs, cx, o, h, hu, ho, hx, hs, _ => by
    have h1 : v = u := by rw [at_nil] at hu; exact Option.some.inj hu
    have h2 : o = 0 := by cases v <;> simp_all [AV.shape, Shape.off]
    subst h1 h2
    have e : cx.length = cs.length := by rw [relC_size hx, relC_size h, shape_size hs]
    have : splice cs 0 cx = cx := by simp [splice, e]
    rw [this]; cases v <;> simpa [AV.setAt] using hx
  | i :: p, .agg ps, u, x, cs, cx, o, h, hu, ho, hx, hs, hk => by
    simp only [AV.at, Option.bind_eq_some_iff] at hu
    obtain ⟨y, hy, hu⟩ := hu
    simp only [AV.shape, Shape.off, shapes_get, hy, Option.map_some, Option.bind_some, Option.map_eq_some_iff, sizes_take] at ho
    obtain ⟨o', ho', rfl⟩ := ho
    simp only [relC] at h
    simp only [setOk] at hk
    obtain ⟨cy, hcy, hc, hl⟩ := relPs_nth h hy
    have ih := setAt_rel hcy hu ho' hx hs (hk y hy)
    obtain ⟨cu, hcu, hcell, hle⟩ := at_rel hcy hu ho'
    have hxl : cx.length = cu.length := by rw [relC_size hx, relC_size hcu, shape_size hs]
    have hsz : (y.setAt p x).size = y.size := shape_size (setAt_shape hu hs (hk y hy))
    have := relPs_set h hy ih hsz
    simp only [AV.setAt, hy, relC]
    have e : splice cs (AV.sizes (ps.take i)) (splice cy o' cx) = splice cs (AV.sizes (ps.take i) + o') cx := by
      apply List.ext_getElem?
      intro j
      have hsl : (splice cy o' cx).length = cy.length := splice_length (by omega)
      have hR := splice_get (cs := cs) (cx := cx) (o := AV.sizes (ps.take i) + o') (by omega) j
      rw [hR, splice_get (by omega), hsl]
      split
      · rw [splice_get (by omega)]
        split
        · rw [if_pos (by omega)]; congr 1; omega
        · rw [if_neg (by omega), ← hc (j - AV.sizes (ps.take i)) (by omega)]; congr 1; omega
      · rw [if_neg (by omega)]
    rw [← e]; exact this
  | [i], .dig d, u, .int k n, cs, cx, o, h, hu, ho, hx, hs, hk => by
    simp only [setOk] at hk; obtain ⟨rfl, h0, h1⟩ := hk
    simp only [AV.at, Option.map_eq_some_iff] at hu
    obtain ⟨b, hb, rfl⟩ := hu
    have hi : i < 32 := by have := (List.getElem?_eq_some_iff.1 hb).1; rw [d.h] at this; exact this
    simp [AV.shape, Shape.off, hi] at ho
    subst ho
    simp only [relC] at h hx; subst h hx
    simp only [AV.setAt, relC, Dig.set]
    have hd := d.h
    apply List.ext_getElem?
    intro j
    rw [splice_get (by simp; omega)]
    simp only [List.length_singleton, List.getElem?_map, List.getElem?_set]
    by_cases e : i = j
    · subst e
      rw [if_pos (by omega), if_pos rfl, if_pos (by omega)]
      simp only [Nat.sub_self, List.getElem?_cons_zero, Option.map_some, u8_toNat h0 h1]
    · rw [if_neg (by omega), if_neg e]
  | [i], .dig d, u, .undef, _, _, _, _, hu, _, _, hs, hk | [i], .dig d, u, .bool _, _, _, _, _, hu, _, _, hs, hk | [i], .dig d, u, .str _, _, _, _, _, hu, _, _, hs, hk | [i], .dig d, u, .ptr _, _, _, _, _, hu, _, _, hs, hk | [i], .dig d, u, .slice _ _, _, _, _, _, hu, _, _, hs, hk
  | [i], .dig d, u, .eptr _, _, _, _, _, hu, _, _, hs, hk | [i], .dig d, u, .mp _, _, _, _, _, hu, _, _, hs, hk | [i], .dig d, u, .fn _ _ _, _, _, _, _, hu, _, _, hs, hk | [i], .dig d, u, .nilFn, _, _, _, _, hu, _, _, hs, hk | [i], .dig d, u, .lit _, _, _, _, _, hu, _, _, hs, hk | [i], .dig d, u, .agg _, _, _, _, _, hu, _, _, hs, hk
  | [i], .dig d, u, .dig _, _, _, _, _, hu, _, _, hs, hk | [i], .dig d, u, .tuple _, _, _, _, _, hu, _, _, hs, hk | [i], .dig d, u, .iface _ _, _, _, _, _, hu, _, _, hs, hk | [i], .dig d, u, .nilIface, _, _, _, _, hu, _, _, hs, hk => by simp [setOk] at hk
  | i :: j :: p, .dig d, u, x, _, _, _, _, hu, _, _, hs, hk => by simp [AV.at] at hu
  | i :: p, .undef, u, _, _, _, _, _, h, _, _, _, _ | i :: p, .bool _, u, _, _, _, _, _, h, _, _, _, _ | i :: p, .int _ _, u, _, _, _, _, _, h, _, _, _, _ | i :: p, .str _, u, _, _, _, _, _, h, _, _, _, _ | i :: p, .ptr _, u, _, _, _, _, _, h, _, _, _, _ | i :: p, .slice _ _, u, _, _, _, _, _, h, _, _, _, _ | i :: p, .eptr _, u, _, _, _, _, _, h, _, _, _, _
  | i :: p, .mp _, u, _, _, _, _, _, h, _, _, _, _ | i :: p, .fn _ _ _, u, _, _, _, _, _, h, _, _, _, _ | i :: p, .nilFn, u, _, _, _, _, _, h, _, _, _, _ | i :: p, .lit _, u, _, _, _, _, _, h, _, _, _, _ | i :: p, .tuple _, u, _, _, _, _, _, h, _, _, _, _ | i :: p, .iface _ _, u, _, _, _, _, _, h, _, _, _, _ | i :: p, .nilIface, u, _, _, _, _, _, h, _, _, _, _ => by simp [AV.at] at h

theorem setRow_eq_setBlk {b : Nat} {c : Array Value} {e : TypeId} {fr : Nat × Nat} (c' : Array Value) (h : w.heap[b]? = some (.cells c e fr)) : w.setRow b c' = setBlk w b (.cells c' e fr) := by
  obtain ⟨hb, hx⟩ := Array.getElem?_eq_some_iff.1 h
  unfold World.setRow setBlk
  congr 1
  apply Array.ext_getElem?
  intro j
  simp only [Array.getElem?_modify, Array.getElem?_setIfInBounds]
  split
  · rename_i e'; subst e'; rw [h]; rfl
  · rfl

end Go.Aff

namespace Go.Aff

variable {g g' : G} {w w' : World} {σ σ' : AST} {P : Program}

theorem store_does (hI : Inv g σ w) {t : TypeId} {a y : AV} {x z : Value} {K : AST → Prop} (ha : relV g w a x) (hy : relV g w y z) (h : storeW P σ t a y K) :
    DoesU P g w (Instr.storeAt t x z) K := by
  unfold storeW at h
  split at h
  · rename_i i p
    split at h
    · rename_i v hobj
      split at h
      · rename_i u hat
        obtain ⟨hs, hsh, hkn, hok, hK⟩ := h
        obtain ⟨b, sh, o, hg, ho, rfl⟩ := relV_ptr ha
        obtain ⟨_, _, c, e, hc, hr, hsv⟩ := obj_cells hI hobj hg
        obtain ⟨cu, hcu, hcell, hle⟩ := at_rel hr hat (hsv ▸ ho)
        obtain ⟨hz, hza⟩ := relV_known hy hkn
        have hlen : z.cells.size = y.size := by rw [← relC_size hz]; simp
        have hxu : y.size = u.size := shape_size hsh
        have hcul := relC_size hcu
        obtain ⟨d, hd⟩ := agg_under hs.1
        have hs := hs.2
        have hsz : (sizeOf t).run P w = .ok (P.cellsOf t) w := run_sizeOf' hd w
        have hst := run_storeCells_at P b o e z.cells.toList 0 c w hc (by simp; rw [hlen, hxu, ← hcul]; simpa using hle) (relC_cell1 hz)
        have hst' : (storeCells ⟨b, o, none⟩ z.cells.toList).run P w = .ok () (setBlk w b (.cells (splice c.toList o z.cells.toList).toArray e)) := by
          rw [hst, setRow_eq_setBlk _ hc]; simp [splice]
        have hrun : (Instr.storeAt t (.pointer (some ⟨b, o, none⟩)) z).run P w = .ok () (setBlk w b (.cells (splice c.toList o z.cells.toList).toArray e)) := by
          have : ¬ (z.cells.size ≠ P.cellsOf t) := by rw [hlen, hs]; simp
          simp only [Instr.storeAt, Instr.sureAddr, storeVar, Sem.run_bind, Sem.run_pure, Result.andThen_ok, hsz, this, if_false, hst', Sem.run_ite]
        have hE := ev_obj (o := .cells (splice c.toList o z.cells.toList).toArray e) hI (obj_cells hI hobj hg).1 (obj_cells hI hobj hg).2.1
        have hin : objIn g (setBlk w b (.cells (splice c.toList o z.cells.toList).toArray e)) b sh (.cells (v.setAt p y)) := by
          refine ⟨_, _, setBlk_same (lt_of_blk hc), ?_, by rw [setAt_shape hat hsh hok, hsv]⟩
          have := setAt_rel hr hat (hsv ▸ ho) hz hsh hok
          simpa using relC_mono hE this
        obtain ⟨hE', hI'⟩ := inv_setObj hI hobj rfl hg hin
        exact ⟨_, g, _, hrun, hE', hI', hK⟩
      · exact h.elim
    · exact h.elim
  · exact h.elim

theorem alloc_does (hI : Inv g σ w) {t : TypeId} {old : Value} {K : AV → AST → Prop} {z : AV} (hz : ZeroOf P t z) (h : K (.ptr (some (σ.objs.length, []))) (σ.push (.cells z))) :
    Does P g w (Instr.alloc t true old) K := by
  obtain ⟨i, zv, hi, hzv, hc, ha, hs⟩ := hz
  have hin : ∀ g', Ev g w g' (w.alloc (.cells zv.cells t)) → objIn g' (w.alloc (.cells zv.cells t)) w.heap.size z.shape (.cells z) :=
    fun g' _ => ⟨_, _, alloc_new, conc_rel _ _ hc, rfl⟩
  obtain ⟨hE, hI'⟩ := inv_push hI hin
  refine ⟨.pointer (some ⟨w.heap.size, 0, none⟩), w.alloc (.cells zv.cells t), _, .ptr (some (σ.objs.length, [])), σ.push (.cells z), ?_, hE, hI', relV_of ?_ rfl, h⟩
  · cases old <;> simp [Instr.alloc, zeroValue, typeInfo, hi, hzv, newVar, newRow]
  · simp only [relC, Value.cells]
    exact ⟨w.heap.size, z.shape, 0, by rw [hI.nobj]; simp, by cases z <;> simp [AV.shape, Shape.off], rfl⟩

theorem box_does (hI : Inv g σ w) {t : TypeId} {v : AV} {x : Value} {K : AV → AST → Prop} (hv : relV g w v x) (hk : v.known = true) (h : K (.ptr (some (σ.objs.length, []))) (σ.push (.cells v))) :
    Does P g w (Instr.box t x) K := by
  obtain ⟨hr, ha⟩ := relV_known hv hk
  have hin : ∀ g', Ev g w g' (w.alloc (.cells x.cells t)) → objIn g' (w.alloc (.cells x.cells t)) w.heap.size v.shape (.cells v) :=
    fun g' hE => ⟨_, _, alloc_new, relC_mono hE hr, rfl⟩
  obtain ⟨hE, hI'⟩ := inv_push hI hin
  refine ⟨.pointer (some ⟨w.heap.size, 0, none⟩), w.alloc (.cells x.cells t), _, .ptr (some (σ.objs.length, [])), σ.push (.cells v), ?_, hE, hI', relV_of ?_ rfl, h⟩
  · simp [Instr.box, newVar, newRow]
  · simp only [relC, Value.cells]
    exact ⟨w.heap.size, v.shape, 0, by rw [hI.nobj]; simp, by cases v <;> simp [AV.shape, Shape.off], rfl⟩

/-! ### Parts -/

theorem fits_under {t : TypeId} {v : AV} (h : fits P t v) : ∃ d, P.underlying t = some d := agg_under h.1

theorem run_part {T : TypeId} {ps : List AV} {cs : Array Value} {i : Nat} {v : AV} (hr : relPs g w ps cs.toList) (hi : ps[i]? = some v) (hf : fits P T v) :
    ∃ y, (part T cs (AV.sizes (ps.take i))).run P w = .ok y w ∧ relV g w v y := by
  obtain ⟨cv, hcv, hcell, hle⟩ := relPs_nth hr hi
  obtain ⟨d, hd⟩ := fits_under hf
  obtain ⟨ha, hs⟩ := hf
  have hlen := relC_size hcv
  cases hg : v.isAgg with
  | true =>
    rw [hg] at ha
    refine ⟨.agg cv.toArray, ?_, relV_of (by simpa [Value.cells] using hcv) hg⟩
    have e : cs.extract (AV.sizes (ps.take i)) (AV.sizes (ps.take i) + P.cellsOf T) = cv.toArray := by
      apply Array.ext_getElem?
      intro j
      rw [Array.getElem?_extract]
      simp only [Array.length_toList] at hle
      rw [hs, ← hlen]
      split
      · rename_i hj
        have h1 := hcell j (by omega)
        simp at h1; rw [h1]; simp
      · rename_i hj
        have hj' : cv.length ≤ j := by omega
        simp [List.getElem?_eq_none hj']
    simp [part, run_isAgg' ha, run_sizeOf' hd, e]
  | false =>
    rw [hg] at ha
    obtain ⟨x, rfl⟩ := relC_scalar hcv hg
    have h1 := relC_cell1 hcv x (by simp)
    have h0 := hcell 0 (by simp)
    simp at h0
    refine ⟨x, ?_, relV_of ?_ ?_⟩
    · simp [part, run_isAgg' ha, h0]
    · rw [cells_one (vAgg_one h1)]; exact hcv
    · rw [hg, vAgg_one h1]

theorem field_does (hI : Inv g σ w) {t : TypeId} {i : Nat} {a : AV} {x : Value} {K : AV → AST → Prop} (ha : relV g w a x) (hst : ∃ fs, P.underlying t = some (.struct fs)) (h : fieldW P t a i (fun v => K v σ)) :
    Does P g w (Instr.field t x i) K := by
  obtain ⟨fs, hfs⟩ := hst
  unfold fieldW at h
  split at h
  · rename_i ps
    split at h
    · rename_i v hv
      obtain ⟨⟨T, hT, hf⟩, hK⟩ := h
      simp only [placeOf, hfs, Option.map_eq_some_iff] at hT
      obtain ⟨f, hf1, hf2⟩ := hT
      simp only [Prod.mk.injEq] at hf2
      obtain ⟨cs, rfl, hr⟩ := relV_agg ha rfl
      simp only [relC] at hr
      obtain ⟨y, hy, hv'⟩ := run_part hr hv hf
      exact Does.pure hI (by simp [Instr.field, run_underlying hfs, hf1, asAgg, hf2.1, hf2.2, hy]) hv' hK
    · exact h.elim
  · exact h.elim

theorem extract_does (hI : Inv g σ w) {i : Nat} {vs : List AV} {v : AV} {x : Value} {K : AV → AST → Prop} (ha : relV g w (.tuple vs) x) (hi : vs[i]? = some v) (h : K v σ) : Does P g w (Instr.extract x i) K := by
  obtain ⟨a, rfl, hr⟩ := relV_tuple ha
  have nth : ∀ {vs : List AV} {l : List Value} {i : Nat} {v : AV}, relVs g w vs l → vs[i]? = some v → ∃ y, l[i]? = some y ∧ relC g w v y.cells.toList ∧ v.isAgg = vAgg y := by
    intro vs
    induction vs with
    | nil => intro l i v _ h; simp at h
    | cons u us ih =>
      intro l i v hr hi
      simp only [relVs] at hr
      obtain ⟨y, r, rfl, h1, h2, h3⟩ := hr
      cases i with
      | zero => simp at hi; subst hi; exact ⟨y, rfl, h1, h2⟩
      | succ i => simp at hi ⊢; exact ih h3 hi
  obtain ⟨y, hy, h1, h2⟩ := nth hr hi
  refine Does.pure hI (v := v) (x := y) ?_ (relV_of h1 h2) h
  simp at hy
  simp [Instr.extract, hy]

end Go.Aff

namespace Go.Aff

variable {g g' : G} {w w' : World} {σ σ' : AST} {P : Program}

theorem mk_add (b o n : Nat) : (⟨b, o, none⟩ : Addr).add n = ⟨b, o + n, none⟩ := by unfold Addr.add; split <;> simp_all

theorem off_snoc : ∀ {p : List Nat} {v : AV} {ps : List AV} {i o : Nat}, v.at p = some (.agg ps) → i < ps.length → v.shape.off p = some o →
    v.shape.off (p ++ [i]) = some (o + AV.sizes (ps.take i))
  | [], v, ps, i, o, h, hi, ho => by
    have h1 : v = .agg ps := by rw [at_nil] at h; exact Option.some.inj h
    subst h1
    simp [AV.shape, Shape.off] at ho; subst ho
    simp [AV.shape, Shape.off, shapes_get, hi, sizes_take]
  | k :: p, .agg qs, ps, i, o, h, hi, ho => by
    simp only [AV.at, Option.bind_eq_some_iff] at h
    obtain ⟨x, hx, h⟩ := h
    simp only [AV.shape, Shape.off, shapes_get, hx, Option.map_some, Option.bind_some, Option.map_eq_some_iff, sizes_take] at ho
    obtain ⟨o', ho', rfl⟩ := ho
    have ih := off_snoc h hi ho'
    simp only [List.cons_append, AV.shape, Shape.off, shapes_get, hx, Option.map_some, Option.bind_some, ih, sizes_take, Option.some.injEq]; omega
  | [k], .dig d, ps, i, o, h, hi, ho => by simp [AV.at] at h
  | k :: l :: p, .dig d, ps, i, o, h, hi, ho => by simp [AV.at] at h
  | k :: p, .undef, _, _, _, h, _, _ | k :: p, .bool _, _, _, _, h, _, _ | k :: p, .int _ _, _, _, _, h, _, _ | k :: p, .str _, _, _, _, h, _, _ | k :: p, .ptr _, _, _, _, h, _, _ | k :: p, .slice _ _, _, _, _, h, _, _ | k :: p, .eptr _, _, _, _, h, _, _
  | k :: p, .mp _, _, _, _, h, _, _ | k :: p, .fn _ _ _, _, _, _, h, _, _ | k :: p, .nilFn, _, _, _, h, _, _ | k :: p, .lit _, _, _, _, h, _, _ | k :: p, .tuple _, _, _, _, h, _, _ | k :: p, .iface _ _, _, _, _, h, _, _ | k :: p, .nilIface, _, _, _, h, _, _ => by simp [AV.at] at h

theorem off_snoc_dig : ∀ {p : List Nat} {v : AV} {d : Dig} {i o : Nat}, v.at p = some (.dig d) → i < 32 → v.shape.off p = some o →
    v.shape.off (p ++ [i]) = some (o + i)
  | [], v, d, i, o, h, hi, ho => by
    have h1 : v = .dig d := by rw [at_nil] at h; exact Option.some.inj h
    subst h1
    simp [AV.shape, Shape.off] at ho; subst ho
    simp [AV.shape, Shape.off, hi]
  | k :: p, .agg qs, d, i, o, h, hi, ho => by
    simp only [AV.at, Option.bind_eq_some_iff] at h
    obtain ⟨x, hx, h⟩ := h
    simp only [AV.shape, Shape.off, shapes_get, hx, Option.map_some, Option.bind_some, Option.map_eq_some_iff, sizes_take] at ho
    obtain ⟨o', ho', rfl⟩ := ho
    have ih := off_snoc_dig h hi ho'
    simp only [List.cons_append, AV.shape, Shape.off, shapes_get, hx, Option.map_some, Option.bind_some, ih, sizes_take, Option.some.injEq]; omega
  | [k], .dig d', d, i, o, h, hi, ho => by simp [AV.at] at h
  | k :: l :: p, .dig d', d, i, o, h, hi, ho => by simp [AV.at] at h
  | k :: p, .undef, _, _, _, h, _, _ | k :: p, .bool _, _, _, _, h, _, _ | k :: p, .int _ _, _, _, _, h, _, _ | k :: p, .str _, _, _, _, h, _, _ | k :: p, .ptr _, _, _, _, h, _, _ | k :: p, .slice _ _, _, _, _, h, _, _ | k :: p, .eptr _, _, _, _, h, _, _
  | k :: p, .mp _, _, _, _, h, _, _ | k :: p, .fn _ _ _, _, _, _, h, _, _ | k :: p, .nilFn, _, _, _, h, _, _ | k :: p, .lit _, _, _, _, h, _, _ | k :: p, .tuple _, _, _, _, h, _, _ | k :: p, .iface _ _, _, _, _, h, _, _ | k :: p, .nilIface, _, _, _, h, _, _ => by simp [AV.at] at h

theorem eptr_part {b o : Nat} {ps : List AV} {cv : List Value} {i : Nat} {x : AV} (hv : relC g w (.agg ps) cv) (hr : rd w b o cv) (hb : g.below b (o + cv.length)) (hi : ps[i]? = some x) :
    relV g w (.eptr x) (.pointer (some ⟨b, o + AV.sizes (ps.take i), none⟩)) := by
  simp only [relC] at hv
  obtain ⟨cx, hx, hcell, hle⟩ := relPs_nth hv hi
  refine relV_of ?_ rfl
  simp only [relC, Value.cells]
  obtain ⟨c, e, fr, hc, hk⟩ := hr
  refine ⟨b, _, cx, rfl, hx, ⟨c, e, fr, hc, fun j hj => ?_⟩, ?_⟩
  · rw [← hcell j hj, ← hk _ (by omega)]; congr 1; omega
  · rcases hb with hb | ⟨L, hL, hl⟩
    · exact .inl hb
    · exact .inr ⟨L, hL, by omega⟩

theorem fieldAddr_does (hI : Inv g σ w) {t : TypeId} {i : Nat} {a : AV} {x : Value} {K : AV → AST → Prop} (ha : relV g w a x) (hst : ∃ fs, P.underlying t = some (.struct fs))
    (h : fieldAddrW P σ t a i (fun v => K v σ)) : Does P g w (Instr.fieldAt t x i) K := by
  obtain ⟨fs, hfs⟩ := hst
  have place : ∀ {ps : List AV} {v : AV}, partIs P t ps i v → 0 < v.size → ∃ f, fs[i]? = some f ∧ ∀ (b o : Nat), (fieldPlace ⟨b, o, none⟩ f).run P w = .ok ⟨b, o + AV.sizes (ps.take i), none⟩ w := by
    rintro ps v ⟨T, hT, hf⟩ hpos
    simp only [placeOf, hfs, Option.map_eq_some_iff, Prod.mk.injEq] at hT
    obtain ⟨f, hf1, hf2, hf3⟩ := hT
    obtain ⟨d, hd⟩ := fits_under hf
    refine ⟨f, hf1, fun b o => ?_⟩
    have hne : ¬ (P.cellsOf T = 0) := by rw [hf.2]; omega
    simp [fieldPlace, hf3, run_sizeOf' hd, hne, hf2, mk_add]
  unfold fieldAddrW at h
  split at h
  · rename_i j p
    split at h
    · rename_i v hobj
      split at h
      · rename_i ps hat
        split at h
        · rename_i y hy
          obtain ⟨hp, hpos, hK⟩ := h
          obtain ⟨f, hf1, hf2⟩ := place hp hpos
          obtain ⟨b, sh, o, hg, ho, rfl⟩ := relV_ptr ha
          obtain ⟨_, _, c, e, hc, hr, hs⟩ := obj_cells hI hobj hg
          refine Does.pure hI (x := .pointer (some ⟨b, o + AV.sizes (ps.take i), none⟩)) (by simp [Instr.fieldAt, run_underlying hfs, hf1, Instr.sureAddr, hf2]) (relV_of ?_ rfl) hK
          simp only [relC, Value.cells]
          refine ⟨b, sh, _, hg, ?_, rfl⟩
          rw [← hs] at ho ⊢
          exact off_snoc hat (List.getElem?_eq_some_iff.1 hy).1 ho
        · exact h.elim
      · exact h.elim
    · exact h.elim
  · rename_i ps
    split at h
    · rename_i y hy
      obtain ⟨hp, hpos, hK⟩ := h
      obtain ⟨f, hf1, hf2⟩ := place hp hpos
      obtain ⟨b, o, cv, rfl, hv, hr, hb⟩ := relV_eptr ha
      exact Does.pure hI (by simp [Instr.fieldAt, run_underlying hfs, hf1, Instr.sureAddr, hf2]) (eptr_part hv hr hb hy) hK
    · exact h.elim
  · exact h.elim

theorem index_does (hI : Inv g σ w) {t : TypeId} {a i : AV} {x y : Value} {K : AV → AST → Prop} (ha : relV g w a x) (hi : relV g w i y) (h : indexW P t a i (fun v => K v σ)) :
    Does P g w (Instr.index t x y) K := by
  unfold indexW at h
  split at h
  · rename_i k n
    obtain rfl := relV_int hi
    split at h
    · rename_i s
      obtain ⟨hu, h0, h1, hK⟩ := h
      obtain ⟨rfl, _⟩ := relV_str ha
      have hlt : n.toNat < s.length := by omega
      have hb := hK s[n.toNat] (List.getElem?_eq_getElem hlt)
      refine Does.pure hI (v := .int .u8 s[n.toNat].toNat) (x := .int .u8 s[n.toNat].toNat) ?_ (relV_mkInt _ _) hb
      have e : (⟨s.toArray⟩ : ByteArray)[n.toNat]? = some s[n.toNat] := by
        show (if h : n.toNat < (⟨s.toArray⟩ : ByteArray).size then some _ else none) = _
        have hsz : (⟨s.toArray⟩ : ByteArray).size = s.length := by show s.toArray.size = _; simp
        rw [dif_pos (by rw [hsz]; exact hlt)]
        rfl
      simp [Instr.index, asIntOf, run_underlying hu, h0, e]
    · rename_i d
      obtain ⟨⟨e, hu, hf⟩, h0, h1, hK⟩ := h
      obtain ⟨cs, rfl, hr⟩ := relV_agg ha rfl
      have hlt : n.toNat < d.l.length := by omega
      have hb := hK d.l[n.toNat] (List.getElem?_eq_getElem hlt)
      obtain ⟨dd, hd⟩ := fits_under hf
      have h1' : n < ((32 : Nat) : Int) := by rw [d.h] at h1; exact_mod_cast h1
      simp only [relC] at hr
      have hcell : cs[n.toNat]? = some (.int .u8 d.l[n.toNat].toNat) := by
        rw [← Array.getElem?_toList, hr]; simp [hlt]
      have hsz : P.cellsOf e = 1 := hf.2
      have hag : aggT P e = some false := hf.1
      refine Does.pure hI (v := .int .u8 d.l[n.toNat].toNat) (x := .int .u8 d.l[n.toNat].toNat) ?_ (relV_mkInt _ _) hb
      simp [Instr.index, asIntOf, run_underlying hu, h0, h1', run_sizeOf' hd, hsz, part, run_isAgg' hag, hcell]
      omega
    · rename_i ps
      obtain ⟨h0, h1, hK⟩ := h
      have hlt : n.toNat < ps.length := by omega
      obtain ⟨⟨T, hT, hf⟩, ⟨e, hu⟩, hk⟩ := hK _ (List.getElem?_eq_getElem hlt)
      obtain ⟨cs, rfl, hr⟩ := relV_agg ha rfl
      simp only [relC] at hr
      simp only [placeOf, hu] at hT
      rw [if_pos hlt] at hT
      simp only [Option.some.injEq, Prod.mk.injEq] at hT
      obtain ⟨hT1, rfl⟩ := hT
      obtain ⟨dd, hd⟩ := fits_under hf
      obtain ⟨z, hz, hv⟩ := run_part (P := P) hr (List.getElem?_eq_getElem hlt) hf
      refine Does.pure hI ?_ hv hk
      have h1' : n < (ps.length : Int) := h1
      simp only [Instr.index, asIntOf, Sem.run_bind, Sem.run_pure, Result.andThen_ok, run_underlying hu, h0, h1', and_self, if_true, run_sizeOf' hd, hT1]
      exact hz
    · exact h.elim
  · exact h.elim

end Go.Aff

namespace Go.Aff

variable {g g' : G} {w w' : World} {σ σ' : AST} {P : Program}

theorem indexAddr_does (hI : Inv g σ w) {t : TypeId} {a i : AV} {x y : Value} {K : AV → AST → Prop} (ha : relV g w a x) (hi : relV g w i y) (h : indexAddrW P σ t a i (fun v => K v σ)) :
    Does P g w (Instr.indexAt t x y) K := by
  unfold indexAddrW at h
  split at h
  · rename_i k n
    obtain rfl := relV_int hi
    split at h
    · rename_i tk xs
      obtain ⟨e, hu, h0, h1, hK⟩ := h
      have hlt : n.toNat < xs.length := by omega
      obtain ⟨hf, hpos, hk⟩ := hK _ (List.getElem?_eq_getElem hlt)
      obtain ⟨ad', a', c, es, css, rfl, had, hes, hc, _, hnone, hmem, _⟩ := relV_slice ha
      obtain ⟨dd, hd⟩ := fits_under hf
      obtain ⟨cx, hcx, hlx, hcell, hle⟩ := relEs_nth hes (List.getElem?_eq_getElem hlt)
      have hce : P.cellsOf e = es := by rw [hf.2, ← relC_size hcx, hlx]
      cases a' with
      | none => have := hnone rfl; omega
      | some bo =>
        obtain ⟨b, o⟩ := bo
        obtain rfl := had.some
        refine Does.pure hI (x := .pointer (some ⟨b, o + n.toNat * es, none⟩)) (v := .eptr xs[n.toNat]) ?_ (relV_of ?_ rfl) hk
        · simp [Instr.indexAt, asIntOf, run_underlying hu, h0, h1, run_sizeOf' hd, hce, mkAddr, mk_add]
        · simp only [relC, Value.cells]
          refine ⟨b, _, cx, rfl, hcx, ?_⟩
          rcases hmem b o rfl with hnil | ⟨⟨c', e', fr, hc', hj⟩, hb⟩
          · subst hnil
            have : cx = [] := by
              apply List.eq_nil_of_length_eq_zero
              simp only [List.length_nil] at hle
              rw [hlx]; omega
            subst this
            exfalso
            have hsz := relC_size hcx
            simp at hsz
            omega
          · refine ⟨⟨c', e', fr, hc', fun j hjl => ?_⟩, ?_⟩
            · rw [← hcell j hjl, ← hj _ (by omega)]; congr 1; omega
            · rcases hb with hb | ⟨L, hL, hl⟩
              · exact .inl hb
              · exact .inr ⟨L, hL, by omega⟩
    · rename_i j p
      split at h
      · rename_i v hobj
        split at h
        · rename_i ps hat
          obtain ⟨h0, h1, hK⟩ := h
          have hlt : n.toNat < ps.length := by omega
          obtain ⟨⟨T, hT, hf⟩, ⟨e, hu⟩, hk⟩ := hK _ (List.getElem?_eq_getElem hlt)
          simp only [placeOf, hu] at hT
          rw [if_pos hlt] at hT
          simp only [Option.some.injEq, Prod.mk.injEq] at hT
          obtain ⟨hT1, rfl⟩ := hT
          obtain ⟨dd, hd⟩ := fits_under hf
          obtain ⟨b, sh, o, hg, ho, rfl⟩ := relV_ptr ha
          obtain ⟨_, _, c, e', hc, hr, hs⟩ := obj_cells hI hobj hg
          refine Does.pure hI (x := .pointer (some ⟨b, o + AV.sizes (ps.take n.toNat), none⟩)) ?_ (relV_of ?_ rfl) hk
          · simp [Instr.indexAt, asIntOf, run_underlying hu, h0, h1, run_sizeOf' hd, Instr.sureAddr, mk_add, ← hT1]
          · simp only [relC, Value.cells]
            refine ⟨b, sh, _, hg, ?_, rfl⟩
            rw [← hs] at ho ⊢
            exact off_snoc hat hlt ho
        · rename_i d hat
          obtain ⟨h0, h1, hK⟩ := h
          have hlt : n.toNat < d.l.length := by omega
          obtain ⟨⟨e, hu, hf⟩, hk⟩ := hK _ (List.getElem?_eq_getElem hlt)
          obtain ⟨dd, hd⟩ := fits_under hf
          have hce : P.cellsOf e = 1 := hf.2
          have h1' : n < ((32 : Nat) : Int) := by rw [d.h] at h1; exact_mod_cast h1
          obtain ⟨b, sh, o, hg, ho, rfl⟩ := relV_ptr ha
          obtain ⟨_, _, c, e', hc, hr, hs⟩ := obj_cells hI hobj hg
          refine Does.pure hI (x := .pointer (some ⟨b, o + n.toNat, none⟩)) ?_ (relV_of ?_ rfl) hk
          · simp [Instr.indexAt, asIntOf, run_underlying hu, h0, run_sizeOf' hd, Instr.sureAddr, mk_add, hce]
            omega
          · simp only [relC, Value.cells]
            refine ⟨b, sh, _, hg, ?_, rfl⟩
            rw [← hs] at ho ⊢
            exact off_snoc_dig hat (by omega) ho
        · exact h.elim
      · exact h.elim
    · rename_i ps
      obtain ⟨h0, h1, hK⟩ := h
      have hlt : n.toNat < ps.length := by omega
      obtain ⟨⟨T, hT, hf⟩, ⟨e, hu⟩, hk⟩ := hK _ (List.getElem?_eq_getElem hlt)
      simp only [placeOf, hu] at hT
      rw [if_pos hlt] at hT
      simp only [Option.some.injEq, Prod.mk.injEq] at hT
      obtain ⟨hT1, rfl⟩ := hT
      obtain ⟨dd, hd⟩ := fits_under hf
      obtain ⟨b, o, cv, rfl, hv, hr, hb⟩ := relV_eptr ha
      refine Does.pure hI ?_ (eptr_part hv hr hb (List.getElem?_eq_getElem hlt)) hk
      simp [Instr.indexAt, asIntOf, run_underlying hu, h0, h1, run_sizeOf' hd, Instr.sureAddr, mk_add, ← hT1]
    · rename_i j p m
      split at h
      · rename_i v hobj
        split at h
        · rename_i ps hat
          obtain ⟨e, hu, hm, hsz, h0, h1, hK⟩ := h
          have h1' : n < (m : Int) := by rw [List.length_take, Nat.min_eq_left hm] at h1; exact h1
          have hlt : n.toNat < ps.length := by omega
          obtain ⟨hf, hk⟩ := hK ps[n.toNat] (by rw [List.getElem?_take, if_pos (by omega)]; exact List.getElem?_eq_getElem hlt)
          obtain ⟨dd, hd⟩ := fits_under hf
          have hsc := (relV_scalar ha rfl rfl).1
          simp only [relC, List.cons.injEq, and_true] at hsc
          obtain ⟨b, sh, o, c, hg, ho, rfl, hmc, hcm⟩ := hsc
          obtain ⟨_, _, c', e', hc, hr, hs⟩ := obj_cells hI hobj hg
          refine Does.pure hI (x := .pointer (some ⟨b, o + n.toNat * P.cellsOf e, none⟩)) ?_ (relV_of ?_ rfl) hk
          · simp [Instr.indexAt, asIntOf, run_underlying hu, h0, h1', run_sizeOf' hd, mkAddr, mk_add]
          · simp only [relC, Value.cells]
            refine ⟨b, sh, _, hg, ?_, rfl⟩
            rw [← hs] at ho ⊢
            rw [← hsz]
            exact off_snoc hat hlt ho
        · exact h.elim
      · exact h.elim
    · exact h.elim
  · exact h.elim

/-! ### Literals -/

theorem foldl_splice (off : Nat) : ∀ (vs : List Value) (k : Nat) (cells : Array Value), off + k + vs.length ≤ cells.size →
    ((vs.zipIdx k).foldl (fun cs (x : Value × Nat) => cs.setIfInBounds (off + x.2) x.1) cells).toList = splice cells.toList (off + k) vs
  | [], k, cells, _ => by simp [splice]
  | v :: vs, k, cells, h => by
    simp only [List.zipIdx_cons, List.foldl_cons]
    simp only [List.length_cons] at h
    rw [foldl_splice off vs (k + 1) _ (by simp; omega)]
    apply List.ext_getElem?
    intro j
    rw [splice_get (by simp; omega), splice_get (by simp; omega)]
    simp only [List.length_cons, Array.toList_setIfInBounds, List.getElem?_set]
    by_cases e : j = off + k
    · subst e
      rw [if_neg (by omega), if_pos (by omega)]
      simp; omega
    · by_cases e2 : off + (k + 1) ≤ j ∧ j < off + (k + 1) + vs.length
      · rw [if_pos e2, if_pos (by omega)]
        have : j - (off + k) = (j - (off + (k + 1))) + 1 := by omega
        rw [this, List.getElem?_cons_succ]
      · rw [if_neg e2, if_neg (by omega), if_neg (by omega)]

def fillCells (off : Nat) (v : Value) (cells : Array Value) : Array Value := v.cells.zipIdx.foldl (fun cs (c, j) => cs.setIfInBounds (off + j) c) cells

theorem fillCells_list {off : Nat} {v : Value} {cells : Array Value} (h : off + v.cells.size ≤ cells.size) : (fillCells off v cells).toList = splice cells.toList off v.cells.toList := by
  have := foldl_splice off v.cells.toList 0 cells (by simpa using h)
  simp only [Nat.add_zero] at this
  rw [← this]
  unfold fillCells
  rw [← Array.foldl_toList]
  simp

theorem fill_does {t : TypeId} {place : Nat → Option (Nat × Nat)} (hpl : ∀ i o T, placeOf P t i = some (o, T) → (∃ d, P.underlying T = some d) → place i = some (o, P.cellsOf T)) :
    ∀ (parts : List (Nat × AV)) (xs : List (Nat × Value)) (v : AV) (cells : Array Value) (K : AV → Prop), parts.map (·.1) = xs.map (·.1) →
      (∀ (j : Nat) p x, parts[j]? = some p → xs[j]? = some x → relV g w p.2 x.2) → relC g w v cells.toList → fillW P t parts v K →
      ∃ cells' v', Instr.fill place cells xs = some cells' ∧ relC g w v' cells'.toList ∧ v'.isAgg = v.isAgg ∧ K v'
  | [], xs, v, cells, K, hm, _, hr, h => by
    have : xs = [] := by cases xs <;> simp_all
    subst this
    refine ⟨cells, v, by simp [Instr.fill], hr, rfl, ?_⟩
    unfold fillW at h; exact h
  | (i, x) :: parts, [], v, cells, K, hm, _, hr, h => by simp at hm
  | (i, x) :: parts, (i', y) :: xs, v, cells, K, hm, hrel, hr, h => by
    simp only [List.map_cons, List.cons.injEq] at hm
    obtain ⟨rfl, hm⟩ := hm
    have hxy : relV g w x y := hrel 0 _ _ rfl rfl
    have hrest := fun (j : Nat) p z (hp : parts[j]? = some p) (hz : xs[j]? = some z) => hrel (j + 1) p z (by simpa using hp) (by simpa using hz)
    cases v with
    | agg ps =>
      simp only [fillW] at h
      obtain ⟨u, hu, ⟨T, hT, hf⟩, hsh, hkn, hrec⟩ := h
      simp only [relC] at hr
      obtain ⟨cu, hcu, hcell, hle⟩ := relPs_nth hr hu
      obtain ⟨hy, hya⟩ := relV_known hxy hkn
      have hxs : x.size = u.size := shape_size hsh.symm
      have hlen : y.cells.size = x.size := by rw [← relC_size hy]; simp
      have hcul := relC_size hcu
      simp only [Array.length_toList] at hle
      have hpi := hpl _ _ _ hT (fits_under hf)
      have hset := relPs_set hr hu hy hxs
      rw [← fillCells_list (by omega)] at hset
      have hset' : relC g w (.agg (ps.set i x)) (fillCells (AV.sizes (ps.take i)) y cells).toList := by simpa only [relC] using hset
      obtain ⟨cells', v', h1, h2, h3, h4⟩ := fill_does hpl parts xs _ _ K hm hrest hset' hrec
      refine ⟨cells', v', ?_, h2, by rw [h3]; rfl, h4⟩
      rw [← h1]
      conv => lhs; unfold Instr.fill
      simp only [hpi, hf.2, hlen, bne_self_eq_false]
      rw [if_neg (by simp; omega)]
      rfl
    | dig d =>
      have hx : ∃ n, x = .int .u8 n := by
        cases x with
        | int k n => cases k <;> first | exact ⟨n, rfl⟩ | simp [fillW] at h
        | _ => simp [fillW] at h
      obtain ⟨n, rfl⟩ := hx
      simp only [fillW] at h
      obtain ⟨⟨e, hu, hf⟩, hi, h0, h1, hrec⟩ := h
      obtain rfl := relV_int hxy
      simp only [relC] at hr
      have hlen : cells.size = 32 := by rw [← Array.length_toList, hr]; simp [d.h]
      have hce : P.cellsOf e = 1 := hf.2
      have hpi : place i = some (i, 1) := by
        have := hpl i (i * P.cellsOf e) e (by simp only [placeOf, hu]; rw [if_pos hi]) (fits_under hf)
        rw [this, hce]; simp
      have hset : relC g w (.dig (d.set i n)) (fillCells i (.int .u8 n) cells).toList := by
        have hin : setOk (.dig d) [i] (.int .u8 n) := ⟨rfl, h0, h1⟩
        have hat : (AV.dig d).at [i] = some (.int .u8 (d.l[i]'(by rw [d.h]; exact hi)).toNat) := by simp [AV.at, d.h, hi]
        have := setAt_rel (g := g) (w := w) (v := .dig d) (p := [i]) (x := .int .u8 n) (cs := cells.toList) (cx := [.int .u8 n]) (o := i) (by simpa only [relC] using hr) hat (by simp [AV.shape, Shape.off, hi]) (by simp [relC]) rfl hin
        rw [fillCells_list (by simp [Value.cells]; omega)]
        simpa [AV.setAt, Value.cells] using this
      obtain ⟨cells', v', h1', h2, h3, h4⟩ := fill_does hpl parts xs _ _ K hm hrest hset hrec
      refine ⟨cells', v', ?_, h2, by rw [h3]; rfl, h4⟩
      rw [← h1']
      conv => lhs; unfold Instr.fill
      have hl1 : (Value.int .u8 n).cells.size = 1 := rfl
      simp only [hpi, hl1, bne_self_eq_false]
      rw [if_neg (by simp; omega)]
      rfl
    | _ => simp [fillW] at h

theorem run_mapM_fields {α : Type} (f : Field → Sem α) (v : Field → α) : ∀ (l : List Field), (∀ x ∈ l, ∀ w, (f x).run P w = .ok (v x) w) → ∀ w : World, (l.mapM f).run P w = .ok (l.map v) w
  | [], _, w => by simp
  | x :: l, h, w => by
    simp only [List.mapM_cons, Sem.run_bind, h x (by simp), Result.andThen_ok, run_mapM_fields f v l (fun y hy => h y (by simp [hy])) w, Sem.run_pure, List.map_cons]

theorem build_does (hI : Inv g σ w) {t : TypeId} {parts : List (Nat × AV)} {xs : List (Nat × Value)} {K : AV → AST → Prop} {z : AV} (hz : ZeroOf P t z) (hb : Built P t)
    (hm : parts.map (·.1) = xs.map (·.1)) (hrel : ∀ (j : Nat) p x, parts[j]? = some p → xs[j]? = some x → relV g w p.2 x.2) (h : fillW P t parts z (fun v => K v σ)) (hza : z.isAgg = true) :
    Does P g w (Instr.build t xs.toArray) K := by
  obtain ⟨i, zv, hi, hzv, hc, ha, hs⟩ := hz
  have hzr : (zeroValue t).run P w = .ok zv w := by simp [zeroValue, typeInfo, hi, hzv]
  have hr := conc_rel g w hc
  unfold Built at hb
  split at hb
  · rename_i fs hu
    have hpl : ∀ i o T, placeOf P t i = some (o, T) → (∃ d, P.underlying T = some d) → (fs.map fun f => (f.offset, P.cellsOf f.type))[i]? = some (o, P.cellsOf T) := by
      intro i o T h1 _
      simp only [placeOf, hu, Option.map_eq_some_iff, Prod.mk.injEq] at h1
      obtain ⟨f, hf, rfl, rfl⟩ := h1
      simp [hf]
    obtain ⟨cells', v', h1, h2, h3, h4⟩ := fill_does hpl parts xs z zv.cells (fun v => K v σ) hm hrel hr h
    have hmap : (fs.mapM fun f => (do pure (f.offset, ← sizeOf f.type) : Sem (Nat × Nat))).run P w = .ok (fs.map fun f => (f.offset, P.cellsOf f.type)) w := by
      rw [Array.mapM_eq_mapM_toList]
      have hall := List.all_eq_true.1 hb
      have := run_mapM_fields (P := P) (fun f => (do pure (f.offset, ← sizeOf f.type) : Sem (Nat × Nat))) (fun f => (f.offset, P.cellsOf f.type)) fs.toList (fun x hx w => by
        obtain ⟨ti, hti⟩ := Option.isSome_iff_exists.1 (hall x hx)
        simp [sizeOf, typeInfo, hti, Program.cellsOf]) w
      simp only [Sem.run_map, this, Result.andThen_ok]
      congr 1
      apply Array.ext'
      simp
    refine Does.pure hI (x := .agg cells') (v := v') ?_ (relV_of (by simpa [Value.cells] using h2) (by rw [h3, hza]; rfl)) h4
    simp only [Instr.build, Sem.run_bind, hzr, Result.andThen_ok, run_underlying hu, hmap]
    simp only [h1, Sem.run_pure]
  · rename_i n e hu
    have hpl : ∀ i o T, placeOf P t i = some (o, T) → (∃ d, P.underlying T = some d) → (fun i => some (i * P.cellsOf e, P.cellsOf e)) i = some (o, P.cellsOf T) := by
      intro i o T h1 _
      simp only [placeOf, hu] at h1
      split at h1
      · simp only [Option.some.injEq, Prod.mk.injEq] at h1; obtain ⟨rfl, rfl⟩ := h1; rfl
      · cases h1
    obtain ⟨cells', v', h1, h2, h3, h4⟩ := fill_does hpl parts xs z zv.cells (fun v => K v σ) hm hrel hr h
    obtain ⟨ti, hti⟩ := Option.isSome_iff_exists.1 hb
    have hse : (sizeOf e).run P w = .ok (P.cellsOf e) w := by simp [sizeOf, typeInfo, hti, Program.cellsOf]
    refine Does.pure hI (x := .agg cells') (v := v') ?_ (relV_of (by simpa [Value.cells] using h2) (by rw [h3, hza]; rfl)) h4
    simp only [Instr.build, Sem.run_bind, hzr, Result.andThen_ok, run_underlying hu, hse]
    simp only [h1, Sem.run_pure]
  · exact hb.elim

end Go.Aff

namespace Go.Aff

variable {g g' : G} {w w' : World} {σ σ' : AST} {P : Program}

theorem fill_row (size : Nat) : ∀ (xs : List Value) (k : Nat) (cells : Array Value), (∀ x ∈ xs, x.cells.size = size) → cells.size = (k + xs.length) * size →
    ∃ cells', Instr.fill (fun i => some (i * size, size)) cells ((xs.zipIdx k).map fun x => (x.2, x.1)) = some cells' ∧
      cells'.toList = cells.toList.take (k * size) ++ (xs.map (·.cells.toList)).flatten
  | [], k, cells, _, hs => by
    refine ⟨cells, by simp [Instr.fill], ?_⟩
    simp at hs
    have : cells.toList.take (k * size) = cells.toList := List.take_of_length_le (by simp; omega)
    simp [this]
  | x :: xs, k, cells, hx, hs => by
    have h1 := hx x (by simp)
    simp only [List.length_cons] at hs
    have e1 : (k + (xs.length + 1)) * size = k * size + size + xs.length * size := by rw [Nat.add_mul, Nat.add_mul]; omega
    have hle : k * size + x.cells.size ≤ cells.size := by rw [hs, h1, e1]; omega
    have hfl := fillCells_list hle
    have hsz : (fillCells (k * size) x cells).size = cells.size := by
      rw [← Array.length_toList, hfl, splice_length (by simpa using hle), Array.length_toList]
    obtain ⟨cells', h2, h3⟩ := fill_row size xs (k + 1) (fillCells (k * size) x cells) (fun y hy => hx y (by simp [hy])) (by rw [hsz, hs]; congr 1; omega)
    refine ⟨cells', ?_, ?_⟩
    · simp only [List.zipIdx_cons, List.map_cons]
      rw [← h2]
      conv => lhs; unfold Instr.fill
      simp only [h1, bne_self_eq_false]
      rw [if_neg (by simp; omega)]
      rfl
    · rw [h3, hfl]
      simp only [List.map_cons, List.flatten_cons, ← List.append_assoc]
      congr 1
      apply List.ext_getElem?
      intro j
      have hcl : x.cells.toList.length = size := by simpa using h1
      have e2 : (k + 1) * size = k * size + size := by rw [Nat.add_mul]; omega
      rw [List.getElem?_take, List.getElem?_append, e2, List.length_take, splice_get (by simpa using hle)]
      have : min (k * size) cells.toList.length = k * size := by simp; omega
      rw [this]
      by_cases hj : j < k * size
      · rw [if_pos (by omega), if_neg (by omega), if_pos hj, List.getElem?_take, if_pos hj]
      · rw [if_neg hj]
        by_cases hj2 : j < k * size + size
        · rw [if_pos hj2, if_pos (by omega)]
        · rw [if_neg hj2, List.getElem?_eq_none (by omega)]

theorem relEs_flatten {es : Nat} : ∀ {vs : List AV} {xs : List Value}, vs.length = xs.length → (∀ (j : Nat) v x, vs[j]? = some v → xs[j]? = some x → relC g w v x.cells.toList ∧ x.cells.size = es) →
    relEs g w es vs (xs.map (·.cells.toList)).flatten
  | [], [], _, _ => by simp [relEs]
  | [], _ :: _, h, _ => by simp at h
  | _ :: _, [], h, _ => by simp at h
  | v :: vs, x :: xs, h, hr => by
    obtain ⟨h1, h2⟩ := hr 0 v x rfl rfl
    simp only [List.map_cons, List.flatten_cons, relEs]
    exact ⟨_, _, rfl, by simpa using h2, h1, relEs_flatten (by simpa using h) fun j v x hv hx => hr (j + 1) v x (by simpa using hv) (by simpa using hx)⟩

theorem zip_range {α : Type} : ∀ (l : List (Nat × α)) (k : Nat), l.map (·.1) = List.range' k l.length → l = ((l.map (·.2)).zipIdx k).map fun x => (x.2, x.1)
  | [], _, _ => rfl
  | (i, x) :: l, k, h => by
    simp only [List.map_cons, List.length_cons, List.range'_succ, List.cons.injEq] at h
    obtain ⟨rfl, h⟩ := h
    simp only [List.map_cons, List.zipIdx_cons, List.cons.injEq, true_and]
    exact zip_range l _ h

theorem buildSlice_does (hI : Inv g σ w) {t : TypeId} {len : Nat} {parts : List (Nat × AV)} {xs : List (Nat × Value)} {K : AV → AST → Prop}
    (hm : parts.map (·.1) = xs.map (·.1)) (hrel : ∀ (j : Nat) p x, parts[j]? = some p → xs[j]? = some x → relV g w p.2 x.2) (h : buildSliceW P t len parts (fun v => K v σ)) :
    Does P g w (Instr.buildSlice t len xs.toArray) K := by
  obtain ⟨e, hu, hrange, hbig, hfit, ⟨z, hz⟩, hpos, hK⟩ := h
  obtain ⟨i, zv, hi, hzv, hc, ha, hs⟩ := hz
  have hzr : (zeroValue e).run P w = .ok zv w := by simp [zeroValue, typeInfo, hi, hzv]
  have hse : (sizeOf e).run P w = .ok (P.cellsOf e) w := by simp [sizeOf, typeInfo, hi, Program.cellsOf]
  have hlen : xs.length = len := by
    have : (xs.map (·.1)).length = len := by rw [← hm, hrange]; simp
    simpa using this
  have hpl : parts.length = len := by
    have : (parts.map (·.1)).length = len := by rw [hrange]; simp
    simpa using this
  have hxs : xs = ((xs.map (·.2)).zipIdx 0).map fun x => (x.2, x.1) := zip_range xs 0 (by rw [← hm, hrange, hlen, List.range_eq_range'])
  have hval : ∀ (j : Nat) v x, (parts.map (·.2))[j]? = some v → (xs.map (·.2))[j]? = some x → relC g w v x.cells.toList ∧ x.cells.size = P.cellsOf e := by
    intro j v x hv hx
    simp only [List.getElem?_map, Option.map_eq_some_iff] at hv hx
    obtain ⟨p, hp, rfl⟩ := hv
    obtain ⟨q, hq, rfl⟩ := hx
    have hr := hrel j p q hp hq
    obtain ⟨hf, hk⟩ := hfit p.2 (List.mem_map.2 ⟨p, List.mem_iff_getElem?.2 ⟨j, hp⟩, rfl⟩)
    obtain ⟨h1, h2⟩ := relV_known hr hk
    refine ⟨h1, ?_⟩
    have := relC_size h1
    rw [hf.2, ← this]; simp
  have hcells : ∀ x ∈ xs.map (·.2), x.cells.size = P.cellsOf e := by
    intro x hx
    obtain ⟨j, hj⟩ := List.mem_iff_getElem?.1 hx
    have hjl : j < (parts.map (·.2)).length := by have := (List.getElem?_eq_some_iff.1 hj).1; simp at this ⊢; omega
    exact (hval j _ x (List.getElem?_eq_getElem hjl) hj).2
  obtain ⟨cells', h1, h2⟩ := fill_row (P.cellsOf e) (xs.map (·.2)) 0 ((Array.range (len * P.cellsOf e)).map (zv.cells[· % zv.cells.size]!)) hcells (by simp [hlen])
  simp only [Nat.zero_mul, List.take_zero, List.nil_append] at h2
  rw [← hxs] at h1
  have hes := relEs_flatten (g := g) (w := w) (vs := parts.map (·.2)) (xs := xs.map (·.2)) (by simp [hlen, hpl]) hval
  rw [← h2] at hes
  have hsz := relEs_size hes
  simp only [List.length_map, hpl] at hsz
  obtain ⟨hE, hI'⟩ := inv_row (c := cells') (e := e) (fr := (0, 0)) (n := len * P.cellsOf e) hI (by rw [← hsz]; simp)
  have hrun : (Instr.buildSlice t len xs.toArray).run P w = .ok (.slice (some ⟨w.heap.size, 0, none⟩) len len) (w.alloc (.cells cells' e)) := by
    have hnb : ¬ (len * P.cellsOf e > 2 ^ 24) := by omega
    by_cases h0 : len * P.cellsOf e = 0
    · have hl0 : len = 0 := by
        rcases Nat.mul_eq_zero.1 h0 with h | h
        · exact h
        · omega
      subst hl0
      have hx0 : xs = [] := List.eq_nil_of_length_eq_zero hlen
      subst hx0
      simp [Instr.fill] at h1
      subst h1
      have e0 : ∀ f : Nat → Value, Array.map f (Array.range 0) = #[] := fun f => by apply Array.ext'; simp
      simp [Instr.buildSlice, run_underlying hu, hse, Instr.fill, newRow, e0]
    · simp only [Instr.buildSlice, Sem.run_bind, run_underlying hu, Result.andThen_ok, hse, Sem.run_ite, hnb, if_false, Sem.run_pure, h0, hzr, h1]
      simp [newRow]
  have hlenb : len ≤ maxL := by
    have : len * 1 ≤ len * P.cellsOf e := Nat.mul_le_mul_left _ hpos
    unfold maxL; omega
  have main : ∀ tk : Tk, (tk = .full ∨ tk = .lit) → K (.slice tk (parts.map (·.2))) σ → Does P g w (Instr.buildSlice t len xs.toArray) K := by
    intro tk htk hK
    refine ⟨_, _, _, _, σ, hrun, hE, hI', relV_of ?_ rfl, hK⟩
    simp only [relC, Value.cells]
    refine ⟨some (mkAddr (w.heap.size, 0)), some (w.heap.size, 0), len, P.cellsOf e, cells'.toList, by simp [mkAddr, hpl], .inl rfl, relEs_mono hE hes, by simp [hpl], hlenb, (fun h => by cases h), (fun b o hbo => .inr ?_), ?_⟩
    · simp only [Option.some.injEq, Prod.mk.injEq] at hbo
      obtain ⟨rfl, rfl⟩ := hbo
      exact ⟨⟨cells', e, (0, 0), alloc_new, fun j hj => by simp⟩, .inr ⟨len * P.cellsOf e, by simp [G.row], by rw [hsz]; omega⟩⟩
    · rcases htk with rfl | rfl
      · simp [tkOk, hpl]
      · exact ⟨by simp [hpl], w.heap.size, 0, _, rfl, hI.base, by simp [G.row]; rfl⟩
  rcases hK with hK | ⟨_, hK⟩
  · exact main .full (.inl rfl) hK
  · exact main .lit (.inr rfl) hK

/-! ### Arithmetic -/

theorem int_does (hI : Inv g σ w) {op : BinOp} {k : IntKind} {a b : Int} {t : TypeId} {K : AV → AST → Prop} (h : intW op k a b (fun v => K v σ)) : Does P g w (binOp op t (.int k a) (.int k b)) K := by
  cases op <;> simp only [intW] at h
  case quo => obtain ⟨h0, h⟩ := h; exact Does.pure hI (by simp [binOp, Op.intDiv, h0]) (relV_mkInt _ _) h
  case rem => obtain ⟨h0, h⟩ := h; exact Does.pure hI (by simp [binOp, Op.intDiv, h0]) (relV_mkInt _ _) h
  case add => exact Does.pure hI (by simp [binOp, Op.intArith]) (relV_mkInt _ _) h
  case sub => exact Does.pure hI (by simp [binOp, Op.intArith]) (relV_mkInt _ _) h
  case mul => exact Does.pure hI (by simp [binOp, Op.intArith]) (relV_mkInt _ _) h
  case eql => exact Does.pure hI (by simp [binOp, Op.intCmp]) (relV_mkBool _) h
  case neq => exact Does.pure hI (by simp [binOp, Op.intCmp]) (relV_mkBool _) h
  case lss => exact Does.pure hI (by simp [binOp, Op.intCmp]) (relV_mkBool _) h
  case leq => exact Does.pure hI (by simp [binOp, Op.intCmp]) (relV_mkBool _) h
  case gtr => exact Does.pure hI (by simp [binOp, Op.intCmp]) (relV_mkBool _) h
  case geq => exact Does.pure hI (by simp [binOp, Op.intCmp]) (relV_mkBool _) h

theorem bytes_toList (l : List UInt8) : (⟨l.toArray⟩ : ByteArray).toList = l := by
  rw [ByteArray.toList_eq]

theorem bytes_size (l : List UInt8) : (⟨l.toArray⟩ : ByteArray).size = l.length := by
  show l.toArray.size = _; simp

theorem str_does (hI : Inv g σ w) {op : BinOp} {a b : List UInt8} {t : TypeId} {K : AV → AST → Prop} (h : strW op a b (fun v => K v σ)) :
    Does P g w (binOp op t (.string ⟨a.toArray⟩) (.string ⟨b.toArray⟩)) K := by
  cases op <;> simp only [strW] at h
  case add =>
    obtain ⟨h0, h⟩ := h
    have hne : ¬ ((((⟨a.toArray⟩ : ByteArray).size + (⟨b.toArray⟩ : ByteArray).size : Nat) : Int) > IntKind.i64.max) := by
      rw [bytes_size, bytes_size]; unfold maxL at h0
      have : IntKind.i64.max = 9223372036854775807 := by decide
      rw [this]; omega
    refine Does.pure hI (x := .string ⟨(a ++ b).toArray⟩) ?_ (relV_mkStr (by simpa using h0)) h
    simp only [binOp, Op.stringOp, hne, if_false, Sem.run_pure]
    congr 2
  case eql => exact Does.pure hI (by simp [binOp, Op.stringOp, bytes_toList]) (relV_mkBool _) h
  case neq => exact Does.pure hI (by simp [binOp, Op.stringOp, bytes_toList]) (relV_mkBool _) h
  case lss => exact Does.pure hI (by simp [binOp, Op.stringOp, bytes_toList]) (relV_mkBool _) h
  case leq => exact Does.pure hI (by simp [binOp, Op.stringOp, bytes_toList]) (relV_mkBool _) h
  case gtr => exact Does.pure hI (by simp [binOp, Op.stringOp, bytes_toList]) (relV_mkBool _) h
  case geq => exact Does.pure hI (by simp [binOp, Op.stringOp, bytes_toList]) (relV_mkBool _) h

end Go.Aff

