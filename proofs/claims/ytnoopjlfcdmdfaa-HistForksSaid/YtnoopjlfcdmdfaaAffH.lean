/- What operations do, soundly (4): indices, literals. -/
import Derived.Test.YtnoopjlfcdmdfaaAffG
namespace Go.Aff
set_option linter.unusedVariables false
set_option linter.unusedSimpArgs false

variable {g g' : G} {w w' : World} {σ σ' : AST} {P : Program}

theorem indexAddr_does (hI : Inv g σ w) {t : TypeId} {a i : AV} {x y : Value} {K : AV → AST → Prop} (ha : relV g w a x) (hi : relV g w i y) (h : indexAddrW P σ t a i (fun v => K v σ)) :
    Does P g w (Instr.indexAt t x y) K := by
  unfold indexAddrW at h
  split at h
  · rename_i k n
    obtain rfl := relV_int hi
    split at h
    · rename_i tk xs
      obtain ⟨e, hu, h0, h1, hK⟩ := h
      have hlt : n.toNat < xs.length := by omega
      obtain ⟨hf, hpos, hk⟩ := hK _ (List.getElem?_eq_getElem hlt)
      obtain ⟨a', c, es, css, rfl, hes, hc, _, hnone, hmem, _⟩ := relV_slice ha
      obtain ⟨dd, hd⟩ := fits_under hf
      obtain ⟨cx, hcx, hlx, hcell, hle⟩ := relEs_nth hes (List.getElem?_eq_getElem hlt)
      have hce : P.cellsOf e = es := by rw [hf.2, ← relC_size hcx, hlx]
      cases a' with
      | none => have := hnone rfl; omega
      | some bo =>
        obtain ⟨b, o⟩ := bo
        refine Does.pure hI (x := .pointer (some ⟨b, o + n.toNat * es, none⟩)) (v := .eptr xs[n.toNat]) ?_ (relV_of ?_ rfl) hk
        · simp [Instr.indexAt, asIntOf, run_underlying hu, h0, h1, run_sizeOf' hd, hce, mkAddr, mk_add]
        · simp only [relC, Value.cells]
          refine ⟨b, _, cx, rfl, hcx, ?_⟩
          rcases hmem b o rfl with hnil | ⟨⟨c', e', fr, hc', hj⟩, hb⟩
          · subst hnil
            have : cx = [] := by
              apply List.eq_nil_of_length_eq_zero
              simp only [List.length_nil] at hle
              rw [hlx]; omega
            subst this
            exfalso
            have hsz := relC_size hcx
            simp at hsz
            omega
          · refine ⟨⟨c', e', fr, hc', fun j hjl => ?_⟩, ?_⟩
            · rw [← hcell j hjl, ← hj _ (by omega)]; congr 1; omega
            · rcases hb with hb | ⟨L, hL, hl⟩
              · exact .inl hb
              · exact .inr ⟨L, hL, by omega⟩
    · rename_i j p
      split at h
      · rename_i v hobj
        split at h
        · rename_i ps hat
          obtain ⟨h0, h1, hK⟩ := h
          have hlt : n.toNat < ps.length := by omega
          obtain ⟨⟨T, hT, hf⟩, ⟨e, hu⟩, hk⟩ := hK _ (List.getElem?_eq_getElem hlt)
          simp only [placeOf, hu] at hT
          rw [if_pos hlt] at hT
          simp only [Option.some.injEq, Prod.mk.injEq] at hT
          obtain ⟨hT1, rfl⟩ := hT
          obtain ⟨dd, hd⟩ := fits_under hf
          obtain ⟨b, sh, o, hg, ho, rfl⟩ := relV_ptr ha
          obtain ⟨_, _, c, e', hc, hr, hs⟩ := obj_cells hI hobj hg
          refine Does.pure hI (x := .pointer (some ⟨b, o + AV.sizes (ps.take n.toNat), none⟩)) ?_ (relV_of ?_ rfl) hk
          · simp [Instr.indexAt, asIntOf, run_underlying hu, h0, h1, run_sizeOf' hd, Instr.sureAddr, mk_add, ← hT1]
          · simp only [relC, Value.cells]
            refine ⟨b, sh, _, hg, ?_, rfl⟩
            rw [← hs] at ho ⊢
            exact off_snoc hat hlt ho
        · rename_i d hat
          obtain ⟨h0, h1, hK⟩ := h
          have hlt : n.toNat < d.l.length := by omega
          obtain ⟨⟨e, hu, hf⟩, hk⟩ := hK _ (List.getElem?_eq_getElem hlt)
          obtain ⟨dd, hd⟩ := fits_under hf
          have hce : P.cellsOf e = 1 := hf.2
          have h1' : n < ((32 : Nat) : Int) := by rw [d.h] at h1; exact_mod_cast h1
          obtain ⟨b, sh, o, hg, ho, rfl⟩ := relV_ptr ha
          obtain ⟨_, _, c, e', hc, hr, hs⟩ := obj_cells hI hobj hg
          refine Does.pure hI (x := .pointer (some ⟨b, o + n.toNat, none⟩)) ?_ (relV_of ?_ rfl) hk
          · simp [Instr.indexAt, asIntOf, run_underlying hu, h0, run_sizeOf' hd, Instr.sureAddr, mk_add, hce]
            omega
          · simp only [relC, Value.cells]
            refine ⟨b, sh, _, hg, ?_, rfl⟩
            rw [← hs] at ho ⊢
            exact off_snoc_dig hat (by omega) ho
        · exact h.elim
      · exact h.elim
    · rename_i ps
      obtain ⟨h0, h1, hK⟩ := h
      have hlt : n.toNat < ps.length := by omega
      obtain ⟨⟨T, hT, hf⟩, ⟨e, hu⟩, hk⟩ := hK _ (List.getElem?_eq_getElem hlt)
      simp only [placeOf, hu] at hT
      rw [if_pos hlt] at hT
      simp only [Option.some.injEq, Prod.mk.injEq] at hT
      obtain ⟨hT1, rfl⟩ := hT
      obtain ⟨dd, hd⟩ := fits_under hf
      obtain ⟨b, o, cv, rfl, hv, hr, hb⟩ := relV_eptr ha
      refine Does.pure hI ?_ (eptr_part hv hr hb (List.getElem?_eq_getElem hlt)) hk
      simp [Instr.indexAt, asIntOf, run_underlying hu, h0, h1, run_sizeOf' hd, Instr.sureAddr, mk_add, ← hT1]
    · exact h.elim
  · exact h.elim

/-! ### Literals -/

theorem foldl_splice (off : Nat) : ∀ (vs : List Value) (k : Nat) (cells : Array Value), off + k + vs.length ≤ cells.size →
    ((vs.zipIdx k).foldl (fun cs (x : Value × Nat) => cs.setIfInBounds (off + x.2) x.1) cells).toList = splice cells.toList (off + k) vs
  | [], k, cells, _ => by simp [splice]
  | v :: vs, k, cells, h => by
    simp only [List.zipIdx_cons, List.foldl_cons]
    simp only [List.length_cons] at h
    rw [foldl_splice off vs (k + 1) _ (by simp; omega)]
    apply List.ext_getElem?
    intro j
    rw [splice_get (by simp; omega), splice_get (by simp; omega)]
    simp only [List.length_cons, Array.toList_setIfInBounds, List.getElem?_set]
    by_cases e : j = off + k
    · subst e
      rw [if_neg (by omega), if_pos (by omega)]
      simp; omega
    · by_cases e2 : off + (k + 1) ≤ j ∧ j < off + (k + 1) + vs.length
      · rw [if_pos e2, if_pos (by omega)]
        have : j - (off + k) = (j - (off + (k + 1))) + 1 := by omega
        rw [this, List.getElem?_cons_succ]
      · rw [if_neg e2, if_neg (by omega), if_neg (by omega)]

def fillCells (off : Nat) (v : Value) (cells : Array Value) : Array Value := v.cells.zipIdx.foldl (fun cs (c, j) => cs.setIfInBounds (off + j) c) cells

theorem fillCells_list {off : Nat} {v : Value} {cells : Array Value} (h : off + v.cells.size ≤ cells.size) : (fillCells off v cells).toList = splice cells.toList off v.cells.toList := by
  have := foldl_splice off v.cells.toList 0 cells (by simpa using h)
  simp only [Nat.add_zero] at this
  rw [← this]
  unfold fillCells
  rw [← Array.foldl_toList]
  simp

/-- Literals' parts are put in. -/
theorem fill_does {t : TypeId} {place : Nat → Option (Nat × Nat)} (hpl : ∀ i o T, placeOf P t i = some (o, T) → (∃ d, P.underlying T = some d) → place i = some (o, P.cellsOf T)) :
    ∀ (parts : List (Nat × AV)) (xs : List (Nat × Value)) (v : AV) (cells : Array Value) (K : AV → Prop), parts.map (·.1) = xs.map (·.1) →
      (∀ (j : Nat) p x, parts[j]? = some p → xs[j]? = some x → relV g w p.2 x.2) → relC g w v cells.toList → fillW P t parts v K →
      ∃ cells' v', Instr.fill place cells xs = some cells' ∧ relC g w v' cells'.toList ∧ v'.isAgg = v.isAgg ∧ K v'
  | [], xs, v, cells, K, hm, _, hr, h => by
    have : xs = [] := by cases xs <;> simp_all
    subst this
    refine ⟨cells, v, by simp [Instr.fill], hr, rfl, ?_⟩
    unfold fillW at h; exact h
  | (i, x) :: parts, [], v, cells, K, hm, _, hr, h => by simp at hm
  | (i, x) :: parts, (i', y) :: xs, v, cells, K, hm, hrel, hr, h => by
    simp only [List.map_cons, List.cons.injEq] at hm
    obtain ⟨rfl, hm⟩ := hm
    have hxy : relV g w x y := hrel 0 _ _ rfl rfl
    have hrest := fun (j : Nat) p z (hp : parts[j]? = some p) (hz : xs[j]? = some z) => hrel (j + 1) p z (by simpa using hp) (by simpa using hz)
    cases v with
    | agg ps =>
      simp only [fillW] at h
      obtain ⟨u, hu, ⟨T, hT, hf⟩, hsh, hkn, hrec⟩ := h
      simp only [relC] at hr
      obtain ⟨cu, hcu, hcell, hle⟩ := relPs_nth hr hu
      obtain ⟨hy, hya⟩ := relV_known hxy hkn
      have hxs : x.size = u.size := shape_size hsh.symm
      have hlen : y.cells.size = x.size := by rw [← relC_size hy]; simp
      have hcul := relC_size hcu
      simp only [Array.length_toList] at hle
      have hpi := hpl _ _ _ hT (fits_under hf)
      have hset := relPs_set hr hu hy hxs
      rw [← fillCells_list (by omega)] at hset
      have hset' : relC g w (.agg (ps.set i x)) (fillCells (AV.sizes (ps.take i)) y cells).toList := by simpa only [relC] using hset
      obtain ⟨cells', v', h1, h2, h3, h4⟩ := fill_does hpl parts xs _ _ K hm hrest hset' hrec
      refine ⟨cells', v', ?_, h2, by rw [h3]; rfl, h4⟩
      rw [← h1]
      conv => lhs; unfold Instr.fill
      simp only [hpi, hf.2, hlen, bne_self_eq_false]
      rw [if_neg (by simp; omega)]
      rfl
    | dig d =>
      have hx : ∃ n, x = .int .u8 n := by
        cases x with
        | int k n => cases k <;> first | exact ⟨n, rfl⟩ | simp [fillW] at h
        | _ => simp [fillW] at h
      obtain ⟨n, rfl⟩ := hx
      simp only [fillW] at h
      obtain ⟨⟨e, hu, hf⟩, hi, h0, h1, hrec⟩ := h
      obtain rfl := relV_int hxy
      simp only [relC] at hr
      have hlen : cells.size = 32 := by rw [← Array.length_toList, hr]; simp [d.h]
      have hce : P.cellsOf e = 1 := hf.2
      have hpi : place i = some (i, 1) := by
        have := hpl i (i * P.cellsOf e) e (by simp only [placeOf, hu]; rw [if_pos hi]) (fits_under hf)
        rw [this, hce]; simp
      have hset : relC g w (.dig (d.set i n)) (fillCells i (.int .u8 n) cells).toList := by
        have hin : setOk (.dig d) [i] (.int .u8 n) := ⟨rfl, h0, h1⟩
        have hat : (AV.dig d).at [i] = some (.int .u8 (d.l[i]'(by rw [d.h]; exact hi)).toNat) := by simp [AV.at, d.h, hi]
        have := setAt_rel (g := g) (w := w) (v := .dig d) (p := [i]) (x := .int .u8 n) (cs := cells.toList) (cx := [.int .u8 n]) (o := i) (by simpa only [relC] using hr) hat (by simp [AV.shape, Shape.off, hi]) (by simp [relC]) rfl hin
        rw [fillCells_list (by simp [Value.cells]; omega)]
        simpa [AV.setAt, Value.cells] using this
      obtain ⟨cells', v', h1', h2, h3, h4⟩ := fill_does hpl parts xs _ _ K hm hrest hset hrec
      refine ⟨cells', v', ?_, h2, by rw [h3]; rfl, h4⟩
      rw [← h1']
      conv => lhs; unfold Instr.fill
      have hl1 : (Value.int .u8 n).cells.size = 1 := rfl
      simp only [hpi, hl1, bne_self_eq_false]
      rw [if_neg (by simp; omega)]
      rfl
    | _ => simp [fillW] at h

theorem run_mapM_fields {α : Type} (f : Field → Sem α) (v : Field → α) : ∀ (l : List Field), (∀ x ∈ l, ∀ w, (f x).run P w = .ok (v x) w) → ∀ w : World, (l.mapM f).run P w = .ok (l.map v) w
  | [], _, w => by simp
  | x :: l, h, w => by
    simp only [List.mapM_cons, Sem.run_bind, h x (by simp), Result.andThen_ok, run_mapM_fields f v l (fun y hy => h y (by simp [hy])) w, Sem.run_pure, List.map_cons]

theorem build_does (hI : Inv g σ w) {t : TypeId} {parts : List (Nat × AV)} {xs : List (Nat × Value)} {K : AV → AST → Prop} {z : AV} (hz : ZeroOf P t z) (hb : Built P t)
    (hm : parts.map (·.1) = xs.map (·.1)) (hrel : ∀ (j : Nat) p x, parts[j]? = some p → xs[j]? = some x → relV g w p.2 x.2) (h : fillW P t parts z (fun v => K v σ)) (hza : z.isAgg = true) :
    Does P g w (Instr.build t xs.toArray) K := by
  obtain ⟨i, zv, hi, hzv, hc, ha, hs⟩ := hz
  have hzr : (zeroValue t).run P w = .ok zv w := by simp [zeroValue, typeInfo, hi, hzv]
  have hr := conc_rel g w hc
  unfold Built at hb
  split at hb
  · rename_i fs hu
    have hpl : ∀ i o T, placeOf P t i = some (o, T) → (∃ d, P.underlying T = some d) → (fs.map fun f => (f.offset, P.cellsOf f.type))[i]? = some (o, P.cellsOf T) := by
      intro i o T h1 _
      simp only [placeOf, hu, Option.map_eq_some_iff, Prod.mk.injEq] at h1
      obtain ⟨f, hf, rfl, rfl⟩ := h1
      simp [hf]
    obtain ⟨cells', v', h1, h2, h3, h4⟩ := fill_does hpl parts xs z zv.cells (fun v => K v σ) hm hrel hr h
    have hmap : (fs.mapM fun f => (do pure (f.offset, ← sizeOf f.type) : Sem (Nat × Nat))).run P w = .ok (fs.map fun f => (f.offset, P.cellsOf f.type)) w := by
      rw [Array.mapM_eq_mapM_toList]
      have hall := List.all_eq_true.1 hb
      have := run_mapM_fields (P := P) (fun f => (do pure (f.offset, ← sizeOf f.type) : Sem (Nat × Nat))) (fun f => (f.offset, P.cellsOf f.type)) fs.toList (fun x hx w => by
        obtain ⟨ti, hti⟩ := Option.isSome_iff_exists.1 (hall x hx)
        simp [sizeOf, typeInfo, hti, Program.cellsOf]) w
      simp only [Sem.run_map, this, Result.andThen_ok]
      congr 1
      apply Array.ext'
      simp
    refine Does.pure hI (x := .agg cells') (v := v') ?_ (relV_of (by simpa [Value.cells] using h2) (by rw [h3, hza]; rfl)) h4
    simp only [Instr.build, Sem.run_bind, hzr, Result.andThen_ok, run_underlying hu, hmap]
    simp only [h1, Sem.run_pure]
  · rename_i n e hu
    have hpl : ∀ i o T, placeOf P t i = some (o, T) → (∃ d, P.underlying T = some d) → (fun i => some (i * P.cellsOf e, P.cellsOf e)) i = some (o, P.cellsOf T) := by
      intro i o T h1 _
      simp only [placeOf, hu] at h1
      split at h1
      · simp only [Option.some.injEq, Prod.mk.injEq] at h1; obtain ⟨rfl, rfl⟩ := h1; rfl
      · cases h1
    obtain ⟨cells', v', h1, h2, h3, h4⟩ := fill_does hpl parts xs z zv.cells (fun v => K v σ) hm hrel hr h
    obtain ⟨ti, hti⟩ := Option.isSome_iff_exists.1 hb
    have hse : (sizeOf e).run P w = .ok (P.cellsOf e) w := by simp [sizeOf, typeInfo, hti, Program.cellsOf]
    refine Does.pure hI (x := .agg cells') (v := v') ?_ (relV_of (by simpa [Value.cells] using h2) (by rw [h3, hza]; rfl)) h4
    simp only [Instr.build, Sem.run_bind, hzr, Result.andThen_ok, run_underlying hu, hse]
    simp only [h1, Sem.run_pure]
  · exact hb.elim

end Go.Aff
