/- What operations do, soundly (5): slices' literals, arithmetic, comparisons, conversions. -/
import Derived.Test.YtnoopjlfcdmdfaaAffH
import Derived.Laws.Append
import Derived.Laws.BytesString
namespace Go.Aff
set_option linter.unusedVariables false
set_option linter.unusedSimpArgs false

variable {g g' : G} {w w' : World} {σ σ' : AST} {P : Program}

theorem fill_row (size : Nat) : ∀ (xs : List Value) (k : Nat) (cells : Array Value), (∀ x ∈ xs, x.cells.size = size) → cells.size = (k + xs.length) * size →
    ∃ cells', Instr.fill (fun i => some (i * size, size)) cells ((xs.zipIdx k).map fun x => (x.2, x.1)) = some cells' ∧
      cells'.toList = cells.toList.take (k * size) ++ (xs.map (·.cells.toList)).flatten
  | [], k, cells, _, hs => by
    refine ⟨cells, by simp [Instr.fill], ?_⟩
    simp at hs
    have : cells.toList.take (k * size) = cells.toList := List.take_of_length_le (by simp; omega)
    simp [this]
  | x :: xs, k, cells, hx, hs => by
    have h1 := hx x (by simp)
    simp only [List.length_cons] at hs
    have e1 : (k + (xs.length + 1)) * size = k * size + size + xs.length * size := by rw [Nat.add_mul, Nat.add_mul]; omega
    have hle : k * size + x.cells.size ≤ cells.size := by rw [hs, h1, e1]; omega
    have hfl := fillCells_list hle
    have hsz : (fillCells (k * size) x cells).size = cells.size := by
      rw [← Array.length_toList, hfl, splice_length (by simpa using hle), Array.length_toList]
    obtain ⟨cells', h2, h3⟩ := fill_row size xs (k + 1) (fillCells (k * size) x cells) (fun y hy => hx y (by simp [hy])) (by rw [hsz, hs]; congr 1; omega)
    refine ⟨cells', ?_, ?_⟩
    · simp only [List.zipIdx_cons, List.map_cons]
      rw [← h2]
      conv => lhs; unfold Instr.fill
      simp only [h1, bne_self_eq_false]
      rw [if_neg (by simp; omega)]
      rfl
    · rw [h3, hfl]
      simp only [List.map_cons, List.flatten_cons, ← List.append_assoc]
      congr 1
      apply List.ext_getElem?
      intro j
      have hcl : x.cells.toList.length = size := by simpa using h1
      have e2 : (k + 1) * size = k * size + size := by rw [Nat.add_mul]; omega
      rw [List.getElem?_take, List.getElem?_append, e2, List.length_take, splice_get (by simpa using hle)]
      have : min (k * size) cells.toList.length = k * size := by simp; omega
      rw [this]
      by_cases hj : j < k * size
      · rw [if_pos (by omega), if_neg (by omega), if_pos hj, List.getElem?_take, if_pos hj]
      · rw [if_neg hj]
        by_cases hj2 : j < k * size + size
        · rw [if_pos hj2, if_pos (by omega)]
        · rw [if_neg hj2, List.getElem?_eq_none (by omega)]

theorem relEs_flatten {es : Nat} : ∀ {vs : List AV} {xs : List Value}, vs.length = xs.length → (∀ (j : Nat) v x, vs[j]? = some v → xs[j]? = some x → relC g w v x.cells.toList ∧ x.cells.size = es) →
    relEs g w es vs (xs.map (·.cells.toList)).flatten
  | [], [], _, _ => by simp [relEs]
  | [], _ :: _, h, _ => by simp at h
  | _ :: _, [], h, _ => by simp at h
  | v :: vs, x :: xs, h, hr => by
    obtain ⟨h1, h2⟩ := hr 0 v x rfl rfl
    simp only [List.map_cons, List.flatten_cons, relEs]
    exact ⟨_, _, rfl, by simpa using h2, h1, relEs_flatten (by simpa using h) fun j v x hv hx => hr (j + 1) v x (by simpa using hv) (by simpa using hx)⟩

theorem zip_range {α : Type} : ∀ (l : List (Nat × α)) (k : Nat), l.map (·.1) = List.range' k l.length → l = ((l.map (·.2)).zipIdx k).map fun x => (x.2, x.1)
  | [], _, _ => rfl
  | (i, x) :: l, k, h => by
    simp only [List.map_cons, List.length_cons, List.range'_succ, List.cons.injEq] at h
    obtain ⟨rfl, h⟩ := h
    simp only [List.map_cons, List.zipIdx_cons, List.cons.injEq, true_and]
    exact zip_range l _ h

theorem buildSlice_does (hI : Inv g σ w) {t : TypeId} {len : Nat} {parts : List (Nat × AV)} {xs : List (Nat × Value)} {K : AV → AST → Prop}
    (hm : parts.map (·.1) = xs.map (·.1)) (hrel : ∀ (j : Nat) p x, parts[j]? = some p → xs[j]? = some x → relV g w p.2 x.2) (h : buildSliceW P t len parts (fun v => K v σ)) :
    Does P g w (Instr.buildSlice t len xs.toArray) K := by
  obtain ⟨e, hu, hrange, hbig, hfit, ⟨z, hz⟩, hpos, hK⟩ := h
  obtain ⟨i, zv, hi, hzv, hc, ha, hs⟩ := hz
  have hzr : (zeroValue e).run P w = .ok zv w := by simp [zeroValue, typeInfo, hi, hzv]
  have hse : (sizeOf e).run P w = .ok (P.cellsOf e) w := by simp [sizeOf, typeInfo, hi, Program.cellsOf]
  have hlen : xs.length = len := by
    have : (xs.map (·.1)).length = len := by rw [← hm, hrange]; simp
    simpa using this
  have hpl : parts.length = len := by
    have : (parts.map (·.1)).length = len := by rw [hrange]; simp
    simpa using this
  have hxs : xs = ((xs.map (·.2)).zipIdx 0).map fun x => (x.2, x.1) := zip_range xs 0 (by rw [← hm, hrange, hlen, List.range_eq_range'])
  have hval : ∀ (j : Nat) v x, (parts.map (·.2))[j]? = some v → (xs.map (·.2))[j]? = some x → relC g w v x.cells.toList ∧ x.cells.size = P.cellsOf e := by
    intro j v x hv hx
    simp only [List.getElem?_map, Option.map_eq_some_iff] at hv hx
    obtain ⟨p, hp, rfl⟩ := hv
    obtain ⟨q, hq, rfl⟩ := hx
    have hr := hrel j p q hp hq
    obtain ⟨hf, hk⟩ := hfit p.2 (List.mem_map.2 ⟨p, List.mem_iff_getElem?.2 ⟨j, hp⟩, rfl⟩)
    obtain ⟨h1, h2⟩ := relV_known hr hk
    refine ⟨h1, ?_⟩
    have := relC_size h1
    rw [hf.2, ← this]; simp
  have hcells : ∀ x ∈ xs.map (·.2), x.cells.size = P.cellsOf e := by
    intro x hx
    obtain ⟨j, hj⟩ := List.mem_iff_getElem?.1 hx
    have hjl : j < (parts.map (·.2)).length := by have := (List.getElem?_eq_some_iff.1 hj).1; simp at this ⊢; omega
    exact (hval j _ x (List.getElem?_eq_getElem hjl) hj).2
  obtain ⟨cells', h1, h2⟩ := fill_row (P.cellsOf e) (xs.map (·.2)) 0 ((Array.range (len * P.cellsOf e)).map (zv.cells[· % zv.cells.size]!)) hcells (by simp [hlen])
  simp only [Nat.zero_mul, List.take_zero, List.nil_append] at h2
  rw [← hxs] at h1
  have hes := relEs_flatten (g := g) (w := w) (vs := parts.map (·.2)) (xs := xs.map (·.2)) (by simp [hlen, hpl]) hval
  rw [← h2] at hes
  have hsz := relEs_size hes
  simp only [List.length_map, hpl] at hsz
  obtain ⟨hE, hI'⟩ := inv_row (c := cells') (e := e) (fr := (0, 0)) (n := len * P.cellsOf e) hI (by rw [← hsz]; simp)
  have hrun : (Instr.buildSlice t len xs.toArray).run P w = .ok (.slice (some ⟨w.heap.size, 0, none⟩) len len) (w.alloc (.cells cells' e)) := by
    have hnb : ¬ (len * P.cellsOf e > 2 ^ 24) := by omega
    by_cases h0 : len * P.cellsOf e = 0
    · have hl0 : len = 0 := by
        rcases Nat.mul_eq_zero.1 h0 with h | h
        · exact h
        · omega
      subst hl0
      have hx0 : xs = [] := List.eq_nil_of_length_eq_zero hlen
      subst hx0
      simp [Instr.fill] at h1
      subst h1
      have e0 : ∀ f : Nat → Value, Array.map f (Array.range 0) = #[] := fun f => by apply Array.ext'; simp
      simp [Instr.buildSlice, run_underlying hu, hse, Instr.fill, newRow, e0]
    · simp only [Instr.buildSlice, Sem.run_bind, run_underlying hu, Result.andThen_ok, hse, Sem.run_ite, hnb, if_false, Sem.run_pure, h0, hzr, h1]
      simp [newRow]
  have hlenb : len ≤ maxL := by
    have : len * 1 ≤ len * P.cellsOf e := Nat.mul_le_mul_left _ hpos
    unfold maxL; omega
  have main : ∀ tk : Tk, (tk = .full ∨ tk = .lit) → K (.slice tk (parts.map (·.2))) σ → Does P g w (Instr.buildSlice t len xs.toArray) K := by
    intro tk htk hK
    refine ⟨_, _, _, _, σ, hrun, hE, hI', relV_of ?_ rfl, hK⟩
    simp only [relC, Value.cells]
    refine ⟨some (w.heap.size, 0), len, P.cellsOf e, cells'.toList, by simp [mkAddr, hpl], relEs_mono hE hes, by simp [hpl], hlenb, (fun h => by cases h), (fun b o hbo => .inr ?_), ?_⟩
    · simp only [Option.some.injEq, Prod.mk.injEq] at hbo
      obtain ⟨rfl, rfl⟩ := hbo
      exact ⟨⟨cells', e, (0, 0), alloc_new, fun j hj => by simp⟩, .inr ⟨len * P.cellsOf e, by simp [G.row], by rw [hsz]; omega⟩⟩
    · rcases htk with rfl | rfl
      · simp [tkOk, hpl]
      · exact ⟨by simp [hpl], w.heap.size, 0, _, rfl, hI.base, by simp [G.row]; rfl⟩
  rcases hK with hK | ⟨_, hK⟩
  · exact main .full (.inl rfl) hK
  · exact main .lit (.inr rfl) hK

/-! ### Arithmetic -/

theorem int_does (hI : Inv g σ w) {op : BinOp} {k : IntKind} {a b : Int} {t : TypeId} {K : AV → AST → Prop} (h : intW op k a b (fun v => K v σ)) : Does P g w (binOp op t (.int k a) (.int k b)) K := by
  cases op <;> simp only [intW] at h
  case quo => obtain ⟨h0, h⟩ := h; exact Does.pure hI (by simp [binOp, Op.intDiv, h0]) (relV_mkInt _ _) h
  case rem => obtain ⟨h0, h⟩ := h; exact Does.pure hI (by simp [binOp, Op.intDiv, h0]) (relV_mkInt _ _) h
  case add => exact Does.pure hI (by simp [binOp, Op.intArith]) (relV_mkInt _ _) h
  case sub => exact Does.pure hI (by simp [binOp, Op.intArith]) (relV_mkInt _ _) h
  case mul => exact Does.pure hI (by simp [binOp, Op.intArith]) (relV_mkInt _ _) h
  case eql => exact Does.pure hI (by simp [binOp, Op.intCmp]) (relV_mkBool _) h
  case neq => exact Does.pure hI (by simp [binOp, Op.intCmp]) (relV_mkBool _) h
  case lss => exact Does.pure hI (by simp [binOp, Op.intCmp]) (relV_mkBool _) h
  case leq => exact Does.pure hI (by simp [binOp, Op.intCmp]) (relV_mkBool _) h
  case gtr => exact Does.pure hI (by simp [binOp, Op.intCmp]) (relV_mkBool _) h
  case geq => exact Does.pure hI (by simp [binOp, Op.intCmp]) (relV_mkBool _) h

theorem bytes_toList (l : List UInt8) : (⟨l.toArray⟩ : ByteArray).toList = l := by
  rw [ByteArray.toList_eq]

theorem bytes_size (l : List UInt8) : (⟨l.toArray⟩ : ByteArray).size = l.length := by
  show l.toArray.size = _; simp

theorem str_does (hI : Inv g σ w) {op : BinOp} {a b : List UInt8} {t : TypeId} {K : AV → AST → Prop} (h : strW op a b (fun v => K v σ)) :
    Does P g w (binOp op t (.string ⟨a.toArray⟩) (.string ⟨b.toArray⟩)) K := by
  cases op <;> simp only [strW] at h
  case add =>
    obtain ⟨h0, h⟩ := h
    have hne : ¬ ((((⟨a.toArray⟩ : ByteArray).size + (⟨b.toArray⟩ : ByteArray).size : Nat) : Int) > IntKind.i64.max) := by
      rw [bytes_size, bytes_size]; unfold maxL at h0
      have : IntKind.i64.max = 9223372036854775807 := by decide
      rw [this]; omega
    refine Does.pure hI (x := .string ⟨(a ++ b).toArray⟩) ?_ (relV_mkStr (by simpa using h0)) h
    simp only [binOp, Op.stringOp, hne, if_false, Sem.run_pure]
    congr 2
  case eql => exact Does.pure hI (by simp [binOp, Op.stringOp, bytes_toList]) (relV_mkBool _) h
  case neq => exact Does.pure hI (by simp [binOp, Op.stringOp, bytes_toList]) (relV_mkBool _) h
  case lss => exact Does.pure hI (by simp [binOp, Op.stringOp, bytes_toList]) (relV_mkBool _) h
  case leq => exact Does.pure hI (by simp [binOp, Op.stringOp, bytes_toList]) (relV_mkBool _) h
  case gtr => exact Does.pure hI (by simp [binOp, Op.stringOp, bytes_toList]) (relV_mkBool _) h
  case geq => exact Does.pure hI (by simp [binOp, Op.stringOp, bytes_toList]) (relV_mkBool _) h

end Go.Aff
