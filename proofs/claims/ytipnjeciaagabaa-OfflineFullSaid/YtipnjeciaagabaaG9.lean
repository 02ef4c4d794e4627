import Derived.Test.YtipnjeciaagabaaG8
import Derived.Maps.RangeRun

set_option linter.unusedSimpArgs false
set_option linter.unusedVariables false

/- What operations do, soundly: make of slices. -/
namespace Go.Aff
set_option linter.unusedVariables false
set_option linter.unusedSimpArgs false

variable {g g' : G} {w w' : World} {σ σ' : AST} {P : Program}

theorem wrap64 {n : Int} (h0 : -9223372036854775808 ≤ n) (h1 : n ≤ 9223372036854775807) : IntKind.i64.wrap n = n := by
  simp only [IntKind.wrap, IntKind.signed, IntKind.bits]
  have e : (2 : Int) ^ 64 = 18446744073709551616 := by decide
  have e' : (2 : Int) ^ (64 - 1) = 9223372036854775808 := by decide
  simp only [e, e']
  try simp
  try omega
theorem range_flat (zl : List Value) (hz : 0 < zl.length) : ∀ n : Nat, (List.range (n * zl.length)).map (fun i => zl.toArray[i % zl.length]!) = (List.replicate n zl).flatten
  | 0 => by simp
  | n + 1 => by
    rw [Nat.add_mul, Nat.one_mul, List.range_add, List.map_append, range_flat zl hz n, List.replicate_succ', List.flatten_append]
    congr 1
    simp only [List.map_map, List.flatten_cons, List.flatten_nil, List.append_nil]
    apply List.ext_getElem?
    intro i
    simp only [List.getElem?_map, List.getElem?_range]
    by_cases h : i < zl.length
    · rw [List.getElem?_range h]
      have h1 : (n * zl.length + i) % zl.length = i := by rw [Nat.mul_comm, Nat.mul_add_mod, Nat.mod_eq_of_lt h]
      simp [h1, h]
    · rw [List.getElem?_eq_none (by simp; omega), List.getElem?_eq_none (by omega)]; rfl
theorem relPs_rep {z : AV} {zl : List Value} (h : relC g w z zl) : ∀ n : Nat, relPs g w (List.replicate n z) (List.replicate n zl).flatten
  | 0 => by simp [relPs]
  | n + 1 => by
    simp only [List.replicate_succ, List.flatten_cons, relPs]
    exact ⟨zl, _, rfl, h, relPs_rep h n⟩
theorem relEs_rep {z : AV} {zl : List Value} (h : relC g w z zl) : ∀ n : Nat, relEs g w zl.length (List.replicate n z) (List.replicate n zl).flatten
  | 0 => by simp [relEs]
  | n + 1 => by
    simp only [List.replicate_succ, List.flatten_cons, relEs]
    exact ⟨zl, _, rfl, rfl, h, relEs_rep h n⟩
theorem makeSlice_does (hI : Inv g σ w) {t : TypeId} {n c : AV} {N C : Value} {K : AV → AST → Prop} (hn : relV g w n N) (hc : relV g w c C) (h : makeSliceW P t n c σ K) : Does P g w (Instr.makeSlice t N C) K := by
  unfold makeSliceW at h
  split at h
  · rename_i a b
    obtain rfl := relV_int hn
    obtain rfl := relV_int hc
    obtain ⟨h0, hab, e, z, hu, hz, hpos, hroom, hbm, h⟩ := h
    obtain ⟨i, zv, hi, hzv, hconc, hag, hsz⟩ := hz
    have hcellsz : zv.cells.size = P.cellsOf e := by
      have := relC_size (conc_rel g w hconc)
      simp only [Array.length_toList] at this
      rw [this, ← hsz]; simp [Program.cellsOf, hi]
    have hib : i.bytes = P.bytesOf e := by simp [Program.bytesOf, hi]
    have his : i.size = P.cellsOf e := by simp [Program.cellsOf, hi]
    have hzr : ∀ W, (zeroValue e).run P W = .ok zv W := fun W => by simp [zeroValue, typeInfo, hi, hzv]
    have wa : IntKind.i64.wrap a = a := wrap64 (by omega) (by omega)
    have wb : IntKind.i64.wrap b = b := wrap64 (by omega) (by omega)
    have hbn : (b.toNat : Int) = b := Int.toNat_of_nonneg (by omega)
    have hbb : (P.bytesOf e : Int) * b ≤ 16777216 := by
      have e1 : (P.bytesOf e : Int) * b = ((b.toNat * P.bytesOf e : Nat) : Int) := by rw [Int.natCast_mul, hbn, Int.mul_comm]
      rw [e1]; omega
    let cells : Array Value := (Array.range (b.toNat * P.cellsOf e)).map (zv.cells[· % zv.cells.size]!)
    have hcl : cells.toList = (List.replicate b.toNat zv.cells.toList).flatten := by
      have := range_flat zv.cells.toList (by simp [hcellsz, hpos]) b.toNat
      rw [← this]
      simp [cells, hcellsz, Array.toList_range]
    have hcs : cells.size = b.toNat * P.cellsOf e := by simp [cells]
    have hrun : (Instr.makeSlice t (.int .i64 a) (.int .i64 b)).run P w = .ok (.slice (some ⟨w.heap.size, 0, none⟩) a.toNat b.toNat) (w.alloc (.cells cells e)) := by
      have n1 : ¬ (b < 0 ∨ (2 ^ 48 : Int) < i.bytes * b) := by rw [hib]; omega
      have n2 : ¬ a < 0 := by omega
      have n3 : ¬ b < a := by omega
      have n4 : ¬ b < 0 := by omega
      have n5 : ¬ ((2 ^ 48 : Int) < i.bytes * b) := fun h => n1 (.inr h)
      have n6 : ¬ (b.toNat * i.bytes > roomBytes) := by rw [hib]; unfold roomBytes; omega
      by_cases hz0 : b.toNat * P.cellsOf e = 0
      · have hce : cells = #[] := by apply Array.eq_empty_of_size_eq_zero; omega
        have hb0 : b.toNat = 0 := by
          rcases Nat.mul_eq_zero.1 hz0 with h | h
          · exact h
          · omega
        have hbz : b = 0 := by omega
        subst hbz
        have haz : a = 0 := by omega
        subst haz
        have e0 : ∀ f : Nat → Value, Array.map f (Array.range 0) = #[] := fun f => by apply Array.ext'; simp
        simp [Instr.makeSlice, run_underlying hu, asInt, asIntOf, typeInfo, hi, wa, wb, askRoom, newRow, sizeOf, his, e0, hce]
      · simp [Instr.makeSlice, run_underlying hu, asInt, asIntOf, typeInfo, hi, wa, wb, n2, n3, n4, n5, n6, askRoom, sizeOf, his, hz0, hzr, newRow]
        rw [if_neg (by rw [hib]; omega)]
    have main : ∀ tk : Tk, tk = .full → a = b → K (.slice tk (List.replicate a.toNat z)) σ → Does P g w (Instr.makeSlice t (.int .i64 a) (.int .i64 b)) K := by
      rintro tk rfl rfl hK
      have hes := relEs_rep (conc_rel g w hconc) a.toNat
      rw [← hcl] at hes
      obtain ⟨hE, hI'⟩ := inv_row (c := cells) (e := e) (fr := (0, 0)) (n := cells.size) hI (Nat.le_refl _)
      refine ⟨_, _, _, _, σ, hrun, hE, hI', relV_of ?_ rfl, hK⟩
      simp only [relC, Value.cells]
      refine ⟨some (mkAddr (w.heap.size, 0)), some (w.heap.size, 0), a.toNat, zv.cells.toList.length, cells.toList, by simp [mkAddr], .inl rfl, relEs_mono hE hes, by simp, by unfold maxL; omega, (fun h => by cases h), (fun b o hbo => .inr ?_), ?_⟩
      · simp only [Option.some.injEq, Prod.mk.injEq] at hbo
        obtain ⟨rfl, rfl⟩ := hbo
        exact ⟨⟨cells, e, (0, 0), alloc_new, fun j hj => by simp⟩, .inr ⟨cells.size, by simp [G.row], by simp⟩⟩
      · simp [tkOk]
    rcases h with ⟨rfl, hK⟩ | ⟨rfl, hK⟩ | ⟨rfl, hK⟩
    · have hps := relPs_rep (conc_rel g w hconc) a.toNat
      rw [← hcl] at hps
      have hin : ∀ g', Ev g w g' (w.alloc (.cells cells e)) → objIn g' (w.alloc (.cells cells e)) w.heap.size (AV.agg (List.replicate a.toNat z)).shape (.cells (.agg (List.replicate a.toNat z))) :=
        fun g' hE => ⟨_, _, alloc_new, relC_mono hE (by simp only [relC]; exact hps), rfl⟩
      obtain ⟨hE, hI'⟩ := inv_push hI hin
      refine ⟨_, _, _, .arr σ.objs.length [] a.toNat, _, hrun, hE, hI', relV_of ?_ rfl, hK⟩
      simp only [relC, Value.cells]
      exact ⟨w.heap.size, (AV.agg (List.replicate a.toNat z)).shape, 0, a.toNat, by rw [hI.nobj]; simp, by simp [AV.shape, Shape.off], rfl, Nat.le_refl _, by unfold maxL; omega⟩
    · exact main .full rfl rfl hK
    · obtain ⟨hE1, hI1⟩ := inv_row (c := cells) (e := e) (fr := (0, 0)) (n := 0) hI (Nat.zero_le _)
      obtain ⟨hE2, hI2⟩ := inv_tok hI1 ⟨some (w.heap.size, 0), 0, b.toNat, P.cellsOf e⟩ (Nat.zero_le _) (by simp only; unfold maxL; omega) (by simp) (by
        intro b' o' hbo hlt
        simp only [Option.some.injEq, Prod.mk.injEq] at hbo
        obtain ⟨rfl, rfl⟩ := hbo
        refine ⟨by simp [G.row], ⟨cells, e, (0, 0), alloc_new, by simp [hcs], .inl rfl⟩, ?_⟩
        intro t' e' ht o'' ha hlt'
        obtain ⟨_, _, _, _, h5⟩ := hI.tok t' e' ht
        obtain ⟨_, c2, el2, fr2, hc2, _⟩ := h5 _ _ ha hlt'
        have := lt_of_blk hc2
        omega)
      refine ⟨_, _, _, .slice (.own σ.toks.length) [], _, hrun, hE1.trans hE2, hI2, relV_of ?_ rfl, hK⟩
      simp only [relC, Value.cells]
      refine ⟨some (mkAddr (w.heap.size, 0)), some (w.heap.size, 0), b.toNat, P.cellsOf e, [], by simp [mkAddr], .inl rfl, by simp [relEs], by simp, by unfold maxL; omega, (fun h => by cases h), (fun b o hbo => .inl rfl), ?_⟩
      exact ⟨⟨some (w.heap.size, 0), 0, b.toNat, P.cellsOf e⟩, by rw [hI.ntok]; simp [G.row], by simp, fun _ => ⟨rfl, rfl⟩, .inl rfl⟩
  · exact h.elim

/-! ### Weaker ends -/
theorem lookupW_mono {t : TypeId} {x k : AV} {ok : Bool} {K K' : AV → Prop} (hk : ∀ v, K v → K' v) (h : lookupW P σ t x k ok K) : lookupW P σ t x k ok K' := by
  obtain ⟨kt, et, h1, h2, h⟩ := h
  refine ⟨kt, et, h1, h2, ?_⟩
  split at h
  · exact ⟨h.1, hk _ h.2⟩
  · rename_i i
    cases ho : σ.objs[i]? with
    | none => simp [ho] at h
    | some o =>
      cases o with
      | map es ck =>
        simp only [ho] at h ⊢
        obtain ⟨r, hr, h⟩ := h
        refine ⟨r, hr, ?_⟩
        cases r with
        | none => exact ⟨h.1, hk _ h.2⟩
        | some j => exact fun e he => hk _ (h e he)
      | _ => simp [ho] at h
  · exact h.elim
theorem mapUpdateW_mono {t : TypeId} {m k v : AV} {K K' : AST → Prop} (hk : ∀ s, K s → K' s) (h : mapUpdateW P σ t m k v K) : mapUpdateW P σ t m k v K' := by
  obtain ⟨kt, et, h1, h2, h3, h⟩ := h
  refine ⟨kt, et, h1, h2, h3, ?_⟩
  split at h
  · rename_i i
    cases ho : σ.objs[i]? with
    | none => simp [ho] at h
    | some o =>
      cases o with
      | map es ck =>
        simp only [ho] at h ⊢
        obtain ⟨r, hr, h⟩ := h
        refine ⟨r, hr, ?_⟩
        cases r with
        | none => exact hk _ h
        | some j => exact hk _ h
      | _ => simp [ho] at h
  · exact h.elim
theorem mapEntryW_mono {t : TypeId} {m k : AV} {K K' : AV → AST → Prop} (hk : ∀ v s, K v s → K' v s) (h : mapEntryW P σ t m k K) : mapEntryW P σ t m k K' := by
  obtain ⟨kt, et, h1, h2, h⟩ := h
  refine ⟨kt, et, h1, h2, ?_⟩
  split at h
  · rename_i i
    cases ho : σ.objs[i]? with
    | none => simp [ho] at h
    | some o =>
      cases o with
      | map es ck =>
        simp only [ho] at h ⊢
        obtain ⟨r, hr, h⟩ := h
        refine ⟨r, hr, ?_⟩
        cases r with
        | none => exact ⟨h.1, hk _ _ h.2⟩
        | some j => exact fun e he => hk _ _ (h e he)
      | _ => simp [ho] at h
  · exact h.elim
theorem entryStoreW_mono {m st v : AV} {K K' : AST → Prop} (hk : ∀ s, K s → K' s) (h : entryStoreW σ m st v K) : entryStoreW σ m st v K' := by
  obtain ⟨h1, h⟩ := h
  refine ⟨h1, ?_⟩
  split at h
  · rename_i i k b
    cases ho : σ.objs[i]? with
    | none => simp [ho] at h
    | some o =>
      cases o with
      | map es ck =>
        simp only [ho] at h ⊢
        obtain ⟨j, e, h2, h3, h4⟩ := h
        exact ⟨j, e, h2, h3, hk _ h4⟩
      | _ => simp [ho] at h
  · exact h.elim
theorem deleteW_mono {ts : Array TypeId} {m k : AV} {K K' : AST → Prop} (hk : ∀ s, K s → K' s) (h : deleteW P ts m k σ K) : deleteW P ts m k σ K' := by
  obtain ⟨t, kt, et, h0, h1, h2, h⟩ := h
  refine ⟨t, kt, et, h0, h1, h2, ?_⟩
  split at h
  · exact hk _ h
  · rename_i i
    cases ho : σ.objs[i]? with
    | none => simp [ho] at h
    | some o =>
      cases o with
      | map es ck =>
        simp only [ho] at h ⊢
        obtain ⟨r, hr, h⟩ := h
        refine ⟨r, hr, ?_⟩
        cases r with
        | none => exact hk _ h
        | some j => exact hk _ h
      | _ => simp [ho] at h
  · exact h.elim
theorem clearW_mono {ts : Array TypeId} {m : AV} {K K' : AST → Prop} (hk : ∀ s, K s → K' s) (h : clearW P ts m σ K) : clearW P ts m σ K' := by
  obtain ⟨h0, h⟩ := h
  refine ⟨h0, ?_⟩
  split at h
  · exact hk _ h
  · rename_i i
    cases ho : σ.objs[i]? with
    | none => simp [ho] at h
    | some o =>
      cases o with
      | map es ck => simp only [ho] at h ⊢; exact hk _ h
      | _ => simp [ho] at h
  · exact h.elim
theorem makeSliceW_mono {t : TypeId} {n c : AV} {K K' : AV → AST → Prop} (hk : ∀ v s, K v s → K' v s) (h : makeSliceW P t n c σ K) : makeSliceW P t n c σ K' := by
  unfold makeSliceW at h ⊢
  split at h
  · obtain ⟨h0, h1, e, z, h2, h3, h4, h5, h6, h⟩ := h
    refine ⟨h0, h1, e, z, h2, h3, h4, h5, h6, ?_⟩
    exact h.imp (fun h => ⟨h.1, hk _ _ h.2⟩) fun h => h.imp (fun h => ⟨h.1, hk _ _ h.2⟩) fun h => ⟨h.1, hk _ _ h.2⟩
  · exact h.elim
end Go.Aff

/- What operations do, soundly: ranges over maps. -/
namespace Go.Aff
set_option linter.unusedVariables false
set_option linter.unusedSimpArgs false

variable {g g' : G} {w w' : World} {σ σ' : AST} {P : Program}

/-- An iterator over a map's object. -/
abbrev iterO (l b i since : Nat) (seen : Array Nat) (last : Nat) : AObj := .pin l (.mapIter (some b) since seen last) [.mp (some i)] [.map (some b)]

/-- range, over a map. -/
def rangeW (P : Program) (σ : AST) (t : TypeId) (x : AV) (K : AV → AST → Prop) : Prop := (∃ kt et, P.underlying t = some (.map kt et)) ∧ match x with
  | .mp (some i) => match σ.objs[i]? with
    | some (.map es ck) => ∀ l b, K (.ptr (some (σ.objs.length, []))) (σ.push (iterO l b i ck #[] ck))
    | _ => False
  | _ => False
/-- The step: nothing has been laid into the map since the loop began. -/
def nextW (σ : AST) (x : AV) (s : Bool) (K : AV → AST → Prop) : Prop := s = false ∧ ∃ j l b i since seen last es ck, x = .ptr (some (j, [])) ∧ σ.objs[j]? = some (iterO l b i since seen last) ∧ σ.objs[i]? = some (.map es ck) ∧
  (∀ e ∈ es, e.1 < since) ∧ since ≤ last ∧ (∀ e ∈ es, ¬ e.1 ∈ seen → K (.tuple [.bool true, e.2.1, e.2.2]) (σ.set j (iterO l b i since (seen.push e.1) ck))) ∧ ((∀ e ∈ es, e.1 ∈ seen) → K (.tuple [.bool false]) σ)
/-- The key and the value of the step. -/
def entryW (σ : AST) (x : AV) (K : AV → Prop) : Prop := ∃ j l b i since, ∃ seen : Array Nat, ∃ (es : List (Nat × AV × AV)) (e : Nat × AV × AV) (ck : Nat), x = .ptr (some (j, [])) ∧ σ.objs[j]? = some (iterO l b i since (seen.push e.1) ck) ∧ σ.objs[i]? = some (.map es ck) ∧ e ∈ es ∧ K (.tuple [e.2.1, e.2.2])

theorem range_does (hI : Inv g σ w) {t : TypeId} {x : AV} {X : Value} {K : AV → AST → Prop} (hx : relV g w x X) (h : rangeW P σ t x K) : Does P g w (Instr.range t X) K := by
  obtain ⟨⟨kt, et, hu⟩, h⟩ := h
  split at h
  · rename_i i
    obtain ⟨b, sh, hg, rfl⟩ := relV_mp hx
    split at h
    · rename_i es ck hobj
      obtain ⟨hb, hlim, hin⟩ := obj_map hI hobj hg
      obtain ⟨me, hme, hR⟩ := mapR_in.1 hin
      obtain ⟨hE, hI'⟩ := inv_push (o := iterO w.heap.size b i ck #[] ck) (B := .mapIter (some b) ck #[] ck) (sh := .leaf) hI fun g' hE => ⟨rfl, alloc_new, fun q v x h1 h2 => by
        cases q with
        | zero =>
          simp at h1 h2; subst h1 h2
          refine .inr ⟨?_, rfl⟩
          simp only [relC, Value.cells]
          exact ⟨b, sh, hE.objs _ _ hg, rfl⟩
        | succ q => simp at h1⟩
      refine ⟨_, _, _, _, _, run_range_map w t kt et b me ck hu hme, hE, hI', relV_of ?_ rfl, h _ _⟩
      simp only [relC, Value.cells]
      exact ⟨w.heap.size, .leaf, 0, by rw [hI.nobj]; simp, by simp [Shape.off], rfl⟩
    · exact h.elim
  · exact h.elim

/-- An iterator's object, and its map's, in memory. -/
theorem iter_in (hI : Inv g σ w) {j l b i since last ck : Nat} {seen : Array Nat} {es : List (Nat × AV × AV)} {X : Value} (hx : relV g w (.ptr (some (j, []))) X) (hj : σ.objs[j]? = some (iterO l b i since seen last)) (hi : σ.objs[i]? = some (.map es ck)) :
    X = .pointer (some ⟨l, 0, none⟩) ∧ w.heap[l]? = some (.mapIter (some b) since seen last) ∧ ∃ me : Array MapEntry, w.heap[b]? = some (.map me ck) ∧ MapR g w es me ck := by
  obtain ⟨b', sh, o, hgj, ho, rfl⟩ := relV_ptr hx
  obtain ⟨bb, sh', hg', hb, hl, hin⟩ := hI.obj j _ hj rfl
  rw [hgj] at hg'; cases hg'
  obtain ⟨rfl, hblk, hr⟩ := hin
  have ho0 : o = 0 := by cases sh <;> simp [Shape.off] at ho <;> omega
  subst ho0
  have hrm := (hr 0 _ _ rfl rfl).resolve_left (fun h => by cases h)
  obtain ⟨hrm, _⟩ := hrm
  simp only [relC, Value.cells] at hrm
  obtain ⟨b2, sh2, hgi, e⟩ := hrm
  simp at e; subst e
  obtain ⟨_, _, hin⟩ := obj_map hI hi hgi
  obtain ⟨me, hme, hR⟩ := mapR_in.1 hin
  exact ⟨rfl, hblk, me, hme, hR⟩
theorem MapR.mem {es : List (Nat × AV × AV)} {me : Array MapEntry} {ck : Nat} (r : MapR g w es me ck) {m : MapEntry} (h : m ∈ me.toList) : ∃ e ∈ es, m.born = e.1 ∧ isV g w e.2.1 m.key ∧ isV g w e.2.2 m.val := by
  obtain ⟨i, hi, rfl⟩ := List.mem_iff_getElem.1 h
  have hl : i < es.length := by rw [r.len]; simpa using hi
  exact ⟨es[i], List.getElem_mem hl, r.each i _ _ (List.getElem?_eq_getElem hl) (by simp at hi; simp [hi])⟩
theorem MapR.mem' {es : List (Nat × AV × AV)} {me : Array MapEntry} {ck : Nat} (r : MapR g w es me ck) {e : Nat × AV × AV} (h : e ∈ es) : ∃ m ∈ me.toList, m.born = e.1 ∧ isV g w e.2.1 m.key ∧ isV g w e.2.2 m.val := by
  obtain ⟨i, hi, rfl⟩ := List.mem_iff_getElem.1 h
  have hl : i < me.size := by rw [← r.len]; exact hi
  exact ⟨me[i], by simp, r.each i _ _ (List.getElem?_eq_getElem hi) (by simp [hl])⟩

theorem next_does (hI : Inv g σ w) {x : AV} {X : Value} {s : Bool} {ty : TypeId} {K : AV → AST → Prop} (hx : relV g w x X) (h : nextW σ x s K) : Does P g w (Instr.next X s ty) K := by
  obtain ⟨rfl, j, l, b, i, since, seen, last, es, ck, rfl, hj, hi, hold, hsc, h1, h2⟩ := h
  obtain ⟨rfl, hblk, me, hme, hR⟩ := iter_in hI hx hj hi
  have holdm : ∀ x ∈ me.toList, x.born < since := fun m hm => by
    obtain ⟨e, he, hb, _⟩ := hR.mem hm
    rw [hb]; exact hold e he
  rcases run_next_at (P := P) w ty l b since last seen me ck hblk hme holdm hsc with ⟨h0, hrun⟩ | ⟨m, hm, w1, hw1, hrun⟩
  · refine ⟨_, w, g, .tuple [.bool false], σ, hrun, Ev.refl _ _, hI, .inr (.inl ⟨_, _, rfl, rfl, by simp only [relVs]; exact ⟨_, [], rfl, by simp [relC, Value.cells], rfl, rfl⟩⟩), h2 fun e he => ?_⟩
    obtain ⟨m, hm, hb, _⟩ := hR.mem' he
    have hle : leftOf me seen = #[] := Array.eq_empty_of_size_eq_zero h0
    unfold leftOf at hle
    rw [Array.filter_eq_empty_iff] at hle
    have := hle m (by simpa using hm)
    rw [← hb]
    simpa using this
  · unfold leftOf at hm
    simp only [Array.toList_filter, List.mem_filter] at hm
    obtain ⟨hm, hns⟩ := hm
    obtain ⟨e, he, hb, hk, hv⟩ := hR.mem hm
    have hns' : ¬ e.1 ∈ seen := by rw [← hb]; simpa using hns
    have hI1 : Inv g σ w1 ∧ Ev g w g w1 ∧ w1.heap = w.heap := by
      rcases hw1 with rfl | rfl
      · exact ⟨hI, Ev.refl _ _, rfl⟩
      · exact ⟨inv_drew hI, ev_drew g w, rfl⟩
    obtain ⟨hI1, hE1, hheap⟩ := hI1
    obtain ⟨bb, sh', hg', hbase, hl, hin⟩ := hI1.obj j _ hj rfl
    obtain ⟨rfl, hblk1, hr⟩ := hin
    have hlt : bb < w1.heap.size := lt_of_blk hblk1
    obtain ⟨hE2, hI2⟩ := inv_setObj (o' := iterO bb b i since (seen.push e.1) ck) (B := .mapIter (some b) since (seen.push e.1) ck) hI1 hj rfl hg' ⟨rfl, setBlk_same hlt, fun q v x h3 h4 => (hr q v x h3 h4).imp id fun ⟨p, q⟩ => ⟨relC_mono (ev_obj hI1 hbase hl) p, q⟩⟩
    have hE := hE1.trans hE2
    rw [hb] at hrun
    refine ⟨_, _, _, .tuple [.bool true, e.2.1, e.2.2], _, hrun, hE, hI2, .inr (.inl ⟨_, _, rfl, rfl, ?_⟩), h1 e he hns'⟩
    have k1 := isV_mono hE hk
    have v1 := isV_mono hE hv
    simp only [relVs]
    exact ⟨_, _, rfl, by simp [relC, Value.cells], rfl, _, _, rfl, k1.1, k1.2, _, [], rfl, v1.1, v1.2, rfl⟩

theorem entry_does (hI : Inv g σ w) {x : AV} {X : Value} {K : AV → AST → Prop} (hx : relV g w x X) (h : entryW σ x fun v => K v σ) : Does P g w (Instr.entry X) K := by
  obtain ⟨j, l, b, i, since, seen, es, e, ck, rfl, hj, hi, he, hK⟩ := h
  obtain ⟨rfl, hblk, me, hme, hR⟩ := iter_in hI hx hj hi
  obtain ⟨m, hm, hb, hk, hv⟩ := hR.mem' he
  have hn : (me.toList.map (·.born)).Nodup := by
    have : me.toList.map (·.born) = es.map (·.1) := by
      apply List.ext_getElem?
      intro q
      simp only [List.getElem?_map]
      have hlen := hR.len
      by_cases hq : q < es.length
      · have hq' : q < me.size := by omega
        have := (hR.each q es[q] me[q] (List.getElem?_eq_getElem hq) (by simp [hq'])).1
        simp [hq, hq', this]
      · simp [hq, show ¬ q < me.size by omega]
    rw [this]; exact hR.nd
  have hrun := run_entry_at (P := P) w l b since seen me ck m (by rw [hb]; exact hblk) hme hm hn
  refine ⟨_, w, g, .tuple [e.2.1, e.2.2], σ, hrun, Ev.refl _ _, hI, .inr (.inl ⟨_, _, rfl, rfl, ?_⟩), hK⟩
  simp only [relVs]
  exact ⟨_, _, rfl, hk.1, hk.2, _, [], rfl, hv.1, hv.2, rfl⟩

theorem rangeW_mono {t : TypeId} {x : AV} {K K' : AV → AST → Prop} (hk : ∀ v s, K v s → K' v s) (h : rangeW P σ t x K) : rangeW P σ t x K' := by
  obtain ⟨h0, h⟩ := h
  refine ⟨h0, ?_⟩
  split at h
  · rename_i i
    cases ho : σ.objs[i]? with
    | none => simp [ho] at h
    | some o =>
      cases o with
      | map es ck => simp only [ho] at h ⊢; exact fun l b => hk _ _ (h l b)
      | _ => simp [ho] at h
  · exact h.elim
theorem nextW_mono {x : AV} {s : Bool} {K K' : AV → AST → Prop} (hk : ∀ v s, K v s → K' v s) (h : nextW σ x s K) : nextW σ x s K' := by
  obtain ⟨h0, j, l, b, i, since, seen, last, es, ck, hx, hj, hi, hold, hsc, h1, h2⟩ := h
  exact ⟨h0, j, l, b, i, since, seen, last, es, ck, hx, hj, hi, hold, hsc, fun e he hn => hk _ _ (h1 e he hn), fun h => hk _ _ (h2 h)⟩
theorem entryW_mono {x : AV} {K K' : AV → Prop} (hk : ∀ v, K v → K' v) (h : entryW σ x K) : entryW σ x K' := by
  obtain ⟨j, l, b, i, since, seen, es, e, ck, hx, hj, hi, he, hK⟩ := h
  exact ⟨j, l, b, i, since, seen, es, e, ck, hx, hj, hi, he, hk _ hK⟩
end Go.Aff

