import Derived.Test.YtahhjdknfhkgcaaG1
import Derived.Laws.Slices
import Derived.Laws.Append
import Derived.Laws.BytesString
import Derived.Lib.ConvBytes

set_option linter.unusedSimpArgs false
set_option linter.unusedVariables false

namespace Go.Aff

variable {g g' : G} {w w' : World} {σ σ' : AST} {P : Program}

def Does (P : Program) (g : G) (w : World) (s : Sem Value) (K : AV → AST → Prop) : Prop :=
  ∃ x w' g' v σ', s.run P w = .ok x w' ∧ Ev g w g' w' ∧ Inv g' σ' w' ∧ relV g' w' v x ∧ K v σ'

def DoesU (P : Program) (g : G) (w : World) (s : Sem Unit) (K : AST → Prop) : Prop :=
  ∃ w' g' σ', s.run P w = .ok () w' ∧ Ev g w g' w' ∧ Inv g' σ' w' ∧ K σ'

theorem Does.pure {s : Sem Value} {K : AV → AST → Prop} {x : Value} {v : AV} (hI : Inv g σ w) (h : s.run P w = .ok x w) (hr : relV g w v x) (hk : K v σ) : Does P g w s K :=
  ⟨x, w, g, v, σ, h, Ev.refl _ _, hI, hr, hk⟩

theorem run_storeCells_fr (P : Program) (g o : Nat) (t : TypeId) (fr : Nat × Nat) : ∀ (vs : List Value) (i : Nat) (cur : Array Value) (w : World), w.heap[g]? = some (.cells cur t fr) → (fr.1 = fr.2 ∨ cur.size ≤ fr.1) → o + i + vs.length ≤ cur.size → (∀ v ∈ vs, v.oneCell' = true) →
    (storeCells ⟨g, o, none⟩ vs i).run P w = .ok () (w.setRow g (cur.toList.take (o + i) ++ vs ++ cur.toList.drop (o + i + vs.length)).toArray)
  | [], i, cur, w, hg, _, _, _ => by
    simp only [storeCells, List.append_nil, List.length_nil, Nat.add_zero, List.take_append_drop, Array.toArray_toList]
    rw [setRow_self w g cur t fr hg]
    rfl
  | v :: rest, i, cur, w, hg, hf, hl, h1 => by
    have hi : o + i < cur.size := by simp at hl; omega
    have hadd : (⟨g, o, none⟩ : Addr).add i = ⟨g, o + i, none⟩ := by unfold Addr.add; split <;> simp_all
    have hcell : w.cell? ⟨g, o + i, none⟩ = some cur[o + i] := by simp [World.cell?, hg, hi]
    have hfro : w.frozen? ⟨g, o + i, none⟩ = false := by
      obtain ⟨lo, hi'⟩ := fr
      dsimp only at hf
      simp only [World.frozen?, hg, Bool.and_eq_false_iff, decide_eq_false_iff_not]
      omega
    have hst : (store ((⟨g, o, none⟩ : Addr).add i) v).run P w = .ok () (w.setRow g (cur.setIfInBounds (o + i) v)) := by
      rw [hadd, run_store P w _ v _ (h1 v (by simp)), hcell]
      simp [hfro, setCell_eq_setRow w g (o + i) cur t fr v hg]
    have ih := run_storeCells_fr P g o t fr rest (i + 1) (cur.setIfInBounds (o + i) v) (w.setRow g (cur.setIfInBounds (o + i) v)) (setRow_heap w g cur _ t _ hg) (by simpa using hf) (by simp at hl ⊢; omega) (fun x hx => h1 x (by simp [hx]))
    simp only [storeCells, Sem.run_bind, hst, Result.andThen_ok, ih, setRow_setRow]
    congr 3
    have e := list_seg_step cur.toList (o + i) v rest (by simp at hl ⊢; omega)
    simpa [Array.toList_setIfInBounds, Nat.add_assoc] using e

theorem obj_cells (hI : Inv g σ w) {i : Nat} {v : AV} (h : σ.objs[i]? = some (.cells v)) {b : Nat} {sh : Shape} (hg : g.objs[i]? = some (b, sh)) :
    g.base ≤ b ∧ g.lim b = none ∧ ∃ c e fr, w.heap[b]? = some (.cells c e fr) ∧ (fr.1 = fr.2 ∨ c.size ≤ fr.1) ∧ relC g w v c.toList ∧ v.shape = sh := by
  obtain ⟨b1, sh1, h1, hb, hl, hin⟩ := hI.obj i _ h rfl
  rw [hg] at h1; cases h1
  exact ⟨hb, hl, hin⟩

theorem load_does (hI : Inv g σ w) {t : TypeId} {a : AV} {x : Value} {K : AV → AST → Prop} (ha : relV g w a x) (h : loadW P σ t a (fun v => K v σ)) :
    Does P g w (Instr.loadAt t x) K := by
  unfold loadW at h
  split at h
  · rename_i i p
    split at h
    · rename_i v hobj
      split at h
      · rename_i u hat
        obtain ⟨b, sh, o, hg, ho, rfl⟩ := relV_ptr ha
        obtain ⟨_, _, c, e, fr, hc, hfr, hr, hs⟩ := obj_cells hI hobj hg
        obtain ⟨cu, hcu, hcell, _⟩ := at_rel hr hat (hs ▸ ho)
        have hrd : rd w b o cu := ⟨c, e, fr, hc, fun j hj => by rw [← hcell j hj]; simp⟩
        obtain ⟨y, hy, hv⟩ := run_loadVar' h.1 hcu hrd
        exact Does.pure hI (by simp [Instr.loadAt, Instr.sureAddr, hy]) hv h.2
      · exact h.elim
    · exact h.elim
  · rename_i v
    obtain ⟨b, o, cv, rfl, hv, hr, _⟩ := relV_eptr ha
    obtain ⟨y, hy, hv'⟩ := run_loadVar' h.1 hv hr
    exact Does.pure hI (by simp [Instr.loadAt, Instr.sureAddr, hy]) hv' h.2
  · exact h.elim

/-! ### Stores -/

def splice (cs : List Value) (o : Nat) (cx : List Value) : List Value := cs.take o ++ cx ++ cs.drop (o + cx.length)

theorem splice_len {cs cx : List Value} {o : Nat} (h : o + cx.length ≤ cs.length) : (splice cs o cx).length = cs.length := by
  simp only [splice, List.length_append, List.length_take, List.length_drop]; omega

theorem splice_get {cs cx : List Value} {o : Nat} (h : o + cx.length ≤ cs.length) (j : Nat) :
    (splice cs o cx)[j]? = if o ≤ j ∧ j < o + cx.length then cx[j - o]? else cs[j]? := by
  unfold splice
  rw [List.append_assoc, List.getElem?_append]
  have h1 : (cs.take o).length = o := by rw [List.length_take]; omega
  rw [h1]
  split
  · rw [if_neg (by omega), List.getElem?_take, if_pos (by omega)]
  · rw [List.getElem?_append]
    split
    · rw [if_pos (by omega)]
    · rw [if_neg (by omega), List.getElem?_drop]; congr 1; omega

theorem splice_length {cs cx : List Value} {o : Nat} (h : o + cx.length ≤ cs.length) : (splice cs o cx).length = cs.length := by
  simp [splice]; omega

theorem relPs_set : ∀ {ps : List AV} {cs : List Value} {i : Nat} {u x : AV} {cx : List Value}, relPs g w ps cs → ps[i]? = some u → relC g w x cx → x.size = u.size →
    relPs g w (ps.set i x) (splice cs (AV.sizes (ps.take i)) cx)
  | [], cs, i, u, x, cx, h, hi, _, _ => by simp at hi
  | p :: ps, cs, 0, u, x, cx, h, hi, hx, hs => by
    simp only [relPs] at h; obtain ⟨c1, c2, rfl, h1, h2⟩ := h
    simp at hi; subst hi
    simp only [List.set_cons_zero, relPs, List.take_zero, AV.sizes, splice, List.nil_append]
    refine ⟨cx, c2, ?_, hx, h2⟩
    have : cx.length = c1.length := by rw [relC_size hx, relC_size h1, hs]
    simp [this]
  | p :: ps, cs, i + 1, u, x, cx, h, hi, hx, hs => by
    simp only [relPs] at h; obtain ⟨c1, c2, rfl, h1, h2⟩ := h
    simp at hi
    have ih := relPs_set h2 hi hx hs
    simp only [List.set_cons_succ, relPs, List.take_succ_cons, AV.sizes, ← relC_size h1]
    refine ⟨c1, _, ?_, h1, ih⟩
    simp only [splice, List.take_append, List.drop_append]
    have e1 : c1.take (c1.length + AV.sizes (ps.take i)) = c1 := List.take_of_length_le (by omega)
    have e2 : c1.drop (c1.length + AV.sizes (ps.take i) + cx.length) = [] := List.drop_of_length_le (by omega)
    have e3 : c1.length + AV.sizes (ps.take i) - c1.length = AV.sizes (ps.take i) := by omega
    have e4 : c1.length + AV.sizes (ps.take i) + cx.length - c1.length = AV.sizes (ps.take i) + cx.length := by omega
    rw [e1, e2, e3, e4]; simp

theorem u8_toNat {n : Int} (h0 : 0 ≤ n) (h1 : n < 256) : (((UInt8.ofNat n.toNat).toNat : Nat) : Int) = n := by
  have : n.toNat < 256 := by omega
  simp [UInt8.toNat_ofNat', Nat.mod_eq_of_lt this]; omega

theorem setAt_shape : ∀ {p : List Nat} {v u x : AV}, v.at p = some u → x.shape = u.shape → setOk v p x → (v.setAt p x).shape = v.shape
  | [], v, u, x, hu, hs, _ => by
    have h1 : v = u := by rw [at_nil] at hu; exact Option.some.inj hu
    subst h1; simpa [AV.setAt] using hs
  | i :: p, .agg ps, u, x, hu, hs, hk => by
    simp only [AV.at, Option.bind_eq_some_iff] at hu
    obtain ⟨y, hy, hu⟩ := hu
    simp only [setOk] at hk
    have ih := setAt_shape hu hs (hk y hy)
    simp only [AV.setAt, hy, AV.shape, AV.shapes_eq_map, List.map_set, ih]
    congr 1
    apply List.ext_getElem?
    intro j
    rw [List.getElem?_set]
    split
    · rename_i e; subst e
      split
      · rw [List.getElem?_map, hy]; rfl
      · rename_i hlt; rw [List.getElem?_map, hy] ; simp at hlt; have := (List.getElem?_eq_some_iff.1 hy).1; omega
    · rfl
  | [i], .dig d, u, .int k n, hu, hs, hk => by
    simp only [setOk] at hk; obtain ⟨rfl, _, _⟩ := hk
    simp [AV.setAt, AV.shape]
  | [i], .dig d, u, .undef, hu, hs, hk | [i], .dig d, u, .bool _, hu, hs, hk | [i], .dig d, u, .str _, hu, hs, hk | [i], .dig d, u, .ptr _, hu, hs, hk | [i], .dig d, u, .slice _ _, hu, hs, hk
  | [i], .dig d, u, .eptr _, hu, hs, hk | [i], .dig d, u, .mp _, hu, hs, hk | [i], .dig d, u, .fn _ _ _, hu, hs, hk | [i], .dig d, u, .nilFn, hu, hs, hk | [i], .dig d, u, .lit _, hu, hs, hk | [i], .dig d, u, .agg _, hu, hs, hk
  | [i], .dig d, u, .dig _, hu, hs, hk | [i], .dig d, u, .tuple _, hu, hs, hk | [i], .dig d, u, .iface _ _, hu, hs, hk | [i], .dig d, u, .nilIface, hu, hs, hk => by simp [setOk] at hk
  | i :: j :: p, .dig d, u, x, hu, hs, hk => by simp [AV.at] at hu
  | i :: p, .undef, u, _, h, _, _ | i :: p, .bool _, u, _, h, _, _ | i :: p, .int _ _, u, _, h, _, _ | i :: p, .str _, u, _, h, _, _ | i :: p, .ptr _, u, _, h, _, _ | i :: p, .slice _ _, u, _, h, _, _ | i :: p, .eptr _, u, _, h, _, _
  | i :: p, .mp _, u, _, h, _, _ | i :: p, .fn _ _ _, u, _, h, _, _ | i :: p, .nilFn, u, _, h, _, _ | i :: p, .lit _, u, _, h, _, _ | i :: p, .tuple _, u, _, h, _, _ | i :: p, .iface _ _, u, _, h, _, _ | i :: p, .nilIface, u, _, h, _, _ => by simp [AV.at] at h

theorem shape_size {x u : AV} (h : x.shape = u.shape) : x.size = u.size := by rw [← AV.size_shape, ← AV.size_shape, h]

theorem setAt_rel : ∀ {p : List Nat} {v u x : AV} {cs cx : List Value} {o : Nat}, relC g w v cs → v.at p = some u → v.shape.off p = some o → relC g w x cx → x.shape = u.shape → setOk v p x →
    relC g w (v.setAt p x) (splice cs o cx)
  | [], v, u, x, cs, cx, o, h, hu, ho, hx, hs, _ => by
    have h1 : v = u := by rw [at_nil] at hu; exact Option.some.inj hu
    have h2 : o = 0 := by cases v <;> simp_all [AV.shape, Shape.off]
    subst h1 h2
    have e : cx.length = cs.length := by rw [relC_size hx, relC_size h, shape_size hs]
    have : splice cs 0 cx = cx := by simp [splice, e]
    rw [this]; cases v <;> simpa [AV.setAt] using hx
  | i :: p, .agg ps, u, x, cs, cx, o, h, hu, ho, hx, hs, hk => by
    simp only [AV.at, Option.bind_eq_some_iff] at hu
    obtain ⟨y, hy, hu⟩ := hu
    simp only [AV.shape, Shape.off, shapes_get, hy, Option.map_some, Option.bind_some, Option.map_eq_some_iff, sizes_take] at ho
    obtain ⟨o', ho', rfl⟩ := ho
    simp only [relC] at h
    simp only [setOk] at hk
    obtain ⟨cy, hcy, hc, hl⟩ := relPs_nth h hy
    have ih := setAt_rel hcy hu ho' hx hs (hk y hy)
    obtain ⟨cu, hcu, hcell, hle⟩ := at_rel hcy hu ho'
    have hxl : cx.length = cu.length := by rw [relC_size hx, relC_size hcu, shape_size hs]
    have hsz : (y.setAt p x).size = y.size := shape_size (setAt_shape hu hs (hk y hy))
    have := relPs_set h hy ih hsz
    simp only [AV.setAt, hy, relC]
    have e : splice cs (AV.sizes (ps.take i)) (splice cy o' cx) = splice cs (AV.sizes (ps.take i) + o') cx := by
      apply List.ext_getElem?
      intro j
      have hsl : (splice cy o' cx).length = cy.length := splice_length (by omega)
      have hR := splice_get (cs := cs) (cx := cx) (o := AV.sizes (ps.take i) + o') (by omega) j
      rw [hR, splice_get (by omega), hsl]
      split
      · rw [splice_get (by omega)]
        split
        · rw [if_pos (by omega)]; congr 1; omega
        · rw [if_neg (by omega), ← hc (j - AV.sizes (ps.take i)) (by omega)]; congr 1; omega
      · rw [if_neg (by omega)]
    rw [← e]; exact this
  | [i], .dig d, u, .int k n, cs, cx, o, h, hu, ho, hx, hs, hk => by
    simp only [setOk] at hk; obtain ⟨rfl, h0, h1⟩ := hk
    simp only [AV.at, Option.map_eq_some_iff] at hu
    obtain ⟨b, hb, rfl⟩ := hu
    have hi : i < 32 := by have := (List.getElem?_eq_some_iff.1 hb).1; rw [d.h] at this; exact this
    simp [AV.shape, Shape.off, hi] at ho
    subst ho
    simp only [relC] at h hx; subst h hx
    simp only [AV.setAt, relC, Dig.set]
    have hd := d.h
    apply List.ext_getElem?
    intro j
    rw [splice_get (by simp; omega)]
    simp only [List.length_singleton, List.getElem?_map, List.getElem?_set]
    by_cases e : i = j
    · subst e
      rw [if_pos (by omega), if_pos rfl, if_pos (by omega)]
      simp only [Nat.sub_self, List.getElem?_cons_zero, Option.map_some, u8_toNat h0 h1]
    · rw [if_neg (by omega), if_neg e]
  | [i], .dig d, u, .undef, _, _, _, _, hu, _, _, hs, hk | [i], .dig d, u, .bool _, _, _, _, _, hu, _, _, hs, hk | [i], .dig d, u, .str _, _, _, _, _, hu, _, _, hs, hk | [i], .dig d, u, .ptr _, _, _, _, _, hu, _, _, hs, hk | [i], .dig d, u, .slice _ _, _, _, _, _, hu, _, _, hs, hk
  | [i], .dig d, u, .eptr _, _, _, _, _, hu, _, _, hs, hk | [i], .dig d, u, .mp _, _, _, _, _, hu, _, _, hs, hk | [i], .dig d, u, .fn _ _ _, _, _, _, _, hu, _, _, hs, hk | [i], .dig d, u, .nilFn, _, _, _, _, hu, _, _, hs, hk | [i], .dig d, u, .lit _, _, _, _, _, hu, _, _, hs, hk | [i], .dig d, u, .agg _, _, _, _, _, hu, _, _, hs, hk
  | [i], .dig d, u, .dig _, _, _, _, _, hu, _, _, hs, hk | [i], .dig d, u, .tuple _, _, _, _, _, hu, _, _, hs, hk | [i], .dig d, u, .iface _ _, _, _, _, _, hu, _, _, hs, hk | [i], .dig d, u, .nilIface, _, _, _, _, hu, _, _, hs, hk => by simp [setOk] at hk
  | i :: j :: p, .dig d, u, x, _, _, _, _, hu, _, _, hs, hk => by simp [AV.at] at hu
  | i :: p, .undef, u, _, _, _, _, _, h, _, _, _, _ | i :: p, .bool _, u, _, _, _, _, _, h, _, _, _, _ | i :: p, .int _ _, u, _, _, _, _, _, h, _, _, _, _ | i :: p, .str _, u, _, _, _, _, _, h, _, _, _, _ | i :: p, .ptr _, u, _, _, _, _, _, h, _, _, _, _ | i :: p, .slice _ _, u, _, _, _, _, _, h, _, _, _, _ | i :: p, .eptr _, u, _, _, _, _, _, h, _, _, _, _
  | i :: p, .mp _, u, _, _, _, _, _, h, _, _, _, _ | i :: p, .fn _ _ _, u, _, _, _, _, _, h, _, _, _, _ | i :: p, .nilFn, u, _, _, _, _, _, h, _, _, _, _ | i :: p, .lit _, u, _, _, _, _, _, h, _, _, _, _ | i :: p, .tuple _, u, _, _, _, _, _, h, _, _, _, _ | i :: p, .iface _ _, u, _, _, _, _, _, h, _, _, _, _ | i :: p, .nilIface, u, _, _, _, _, _, h, _, _, _, _ => by simp [AV.at] at h

theorem setRow_eq_setBlk {b : Nat} {c : Array Value} {e : TypeId} {fr : Nat × Nat} (c' : Array Value) (h : w.heap[b]? = some (.cells c e fr)) : w.setRow b c' = setBlk w b (.cells c' e fr) := by
  obtain ⟨hb, hx⟩ := Array.getElem?_eq_some_iff.1 h
  unfold World.setRow setBlk
  congr 1
  apply Array.ext_getElem?
  intro j
  simp only [Array.getElem?_modify, Array.getElem?_setIfInBounds]
  split
  · rename_i e'; subst e'; rw [h]; rfl
  · rfl

end Go.Aff

namespace Go.Aff

variable {g g' : G} {w w' : World} {σ σ' : AST} {P : Program}

theorem store_does (hI : Inv g σ w) {t : TypeId} {a y : AV} {x z : Value} {K : AST → Prop} (ha : relV g w a x) (hy : relV g w y z) (h : storeW P σ t a y K) :
    DoesU P g w (Instr.storeAt t x z) K := by
  unfold storeW at h
  split at h
  · rename_i i p
    split at h
    · rename_i v hobj
      split at h
      · rename_i u hat
        obtain ⟨hs, hsh, hkn, hok, hK⟩ := h
        obtain ⟨b, sh, o, hg, ho, rfl⟩ := relV_ptr ha
        obtain ⟨_, _, c, e, fr, hc, hfr, hr, hsv⟩ := obj_cells hI hobj hg
        obtain ⟨cu, hcu, hcell, hle⟩ := at_rel hr hat (hsv ▸ ho)
        obtain ⟨hz, hza⟩ := relV_known hy hkn
        have hlen : z.cells.size = y.size := by rw [← relC_size hz]; simp
        have hxu : y.size = u.size := shape_size hsh
        have hcul := relC_size hcu
        obtain ⟨d, hd⟩ := agg_under hs.1
        have hs := hs.2
        have hsz : (sizeOf t).run P w = .ok (P.cellsOf t) w := run_sizeOf' hd w
        have hst := run_storeCells_fr P b o e fr z.cells.toList 0 c w hc hfr (by simp; rw [hlen, hxu, ← hcul]; simpa using hle) (relC_cell1 hz)
        have hst' : (storeCells ⟨b, o, none⟩ z.cells.toList).run P w = .ok () (setBlk w b (.cells (splice c.toList o z.cells.toList).toArray e fr)) := by
          rw [hst, setRow_eq_setBlk _ hc]; simp [splice]
        have hrun : (Instr.storeAt t (.pointer (some ⟨b, o, none⟩)) z).run P w = .ok () (setBlk w b (.cells (splice c.toList o z.cells.toList).toArray e fr)) := by
          have : ¬ (z.cells.size ≠ P.cellsOf t) := by rw [hlen, hs]; simp
          simp only [Instr.storeAt, Instr.sureAddr, storeVar, Sem.run_bind, Sem.run_pure, Result.andThen_ok, hsz, this, if_false, hst', Sem.run_ite]
        have hE := ev_obj (o := .cells (splice c.toList o z.cells.toList).toArray e fr) hI (obj_cells hI hobj hg).1 (obj_cells hI hobj hg).2.1
        have hin : objIn g (setBlk w b (.cells (splice c.toList o z.cells.toList).toArray e fr)) b sh (.cells (v.setAt p y)) := by
          refine ⟨_, _, _, setBlk_same (lt_of_blk hc), by rw [List.size_toArray, splice_len (by rw [Array.length_toList]; simp; rw [hlen, hxu, ← hcul]; simpa using hle)]; simpa using hfr, ?_, by rw [setAt_shape hat hsh hok, hsv]⟩
          have := setAt_rel hr hat (hsv ▸ ho) hz hsh hok
          simpa using relC_mono hE this
        obtain ⟨hE', hI'⟩ := inv_setObj hI hobj rfl hg hin
        exact ⟨_, g, _, hrun, hE', hI', hK⟩
      · exact h.elim
    · exact h.elim
  · exact h.elim

theorem alloc_does (hI : Inv g σ w) {t : TypeId} {old : Value} {K : AV → AST → Prop} {z : AV} (hz : ZeroOf P t z) (h : K (.ptr (some (σ.objs.length, []))) (σ.push (.cells z))) :
    Does P g w (Instr.alloc t true old) K := by
  obtain ⟨i, zv, hi, hzv, hc, ha, hs⟩ := hz
  have hin : ∀ g', Ev g w g' (w.alloc (.cells zv.cells t)) → objIn g' (w.alloc (.cells zv.cells t)) w.heap.size z.shape (.cells z) :=
    fun g' _ => ⟨_, _, _, alloc_new, .inl rfl, conc_rel _ _ hc, rfl⟩
  obtain ⟨hE, hI'⟩ := inv_push hI hin
  refine ⟨.pointer (some ⟨w.heap.size, 0, none⟩), w.alloc (.cells zv.cells t), _, .ptr (some (σ.objs.length, [])), σ.push (.cells z), ?_, hE, hI', relV_of ?_ rfl, h⟩
  · cases old <;> simp [Instr.alloc, zeroValue, typeInfo, hi, hzv, newVar, newRow]
  · simp only [relC, Value.cells]
    exact ⟨w.heap.size, z.shape, 0, by rw [hI.nobj]; simp, by cases z <;> simp [AV.shape, Shape.off], rfl⟩

theorem box_does (hI : Inv g σ w) {t : TypeId} {v : AV} {x : Value} {K : AV → AST → Prop} (hv : relV g w v x) (hk : v.known = true) (h : K (.ptr (some (σ.objs.length, []))) (σ.push (.cells v))) :
    Does P g w (Instr.box t x) K := by
  obtain ⟨hr, ha⟩ := relV_known hv hk
  have hin : ∀ g', Ev g w g' (w.alloc (.cells x.cells t)) → objIn g' (w.alloc (.cells x.cells t)) w.heap.size v.shape (.cells v) :=
    fun g' hE => ⟨_, _, _, alloc_new, .inl rfl, relC_mono hE hr, rfl⟩
  obtain ⟨hE, hI'⟩ := inv_push hI hin
  refine ⟨.pointer (some ⟨w.heap.size, 0, none⟩), w.alloc (.cells x.cells t), _, .ptr (some (σ.objs.length, [])), σ.push (.cells v), ?_, hE, hI', relV_of ?_ rfl, h⟩
  · simp [Instr.box, newVar, newRow]
  · simp only [relC, Value.cells]
    exact ⟨w.heap.size, v.shape, 0, by rw [hI.nobj]; simp, by cases v <;> simp [AV.shape, Shape.off], rfl⟩

/-! ### Parts -/

theorem fits_under {t : TypeId} {v : AV} (h : fits P t v) : ∃ d, P.underlying t = some d := agg_under h.1

theorem run_part {T : TypeId} {ps : List AV} {cs : Array Value} {i : Nat} {v : AV} (hr : relPs g w ps cs.toList) (hi : ps[i]? = some v) (hf : fits P T v) :
    ∃ y, (part T cs (AV.sizes (ps.take i))).run P w = .ok y w ∧ relV g w v y := by
  obtain ⟨cv, hcv, hcell, hle⟩ := relPs_nth hr hi
  obtain ⟨d, hd⟩ := fits_under hf
  obtain ⟨ha, hs⟩ := hf
  have hlen := relC_size hcv
  cases hg : v.isAgg with
  | true =>
    rw [hg] at ha
    refine ⟨.agg cv.toArray, ?_, relV_of (by simpa [Value.cells] using hcv) hg⟩
    have e : cs.extract (AV.sizes (ps.take i)) (AV.sizes (ps.take i) + P.cellsOf T) = cv.toArray := by
      apply Array.ext_getElem?
      intro j
      rw [Array.getElem?_extract]
      simp only [Array.length_toList] at hle
      rw [hs, ← hlen]
      split
      · rename_i hj
        have h1 := hcell j (by omega)
        simp at h1; rw [h1]; simp
      · rename_i hj
        have hj' : cv.length ≤ j := by omega
        simp [List.getElem?_eq_none hj']
    simp [part, run_isAgg' ha, run_sizeOf' hd, e]
  | false =>
    rw [hg] at ha
    obtain ⟨x, rfl⟩ := relC_scalar hcv hg
    have h1 := relC_cell1 hcv x (by simp)
    have h0 := hcell 0 (by simp)
    simp at h0
    refine ⟨x, ?_, relV_of ?_ ?_⟩
    · simp [part, run_isAgg' ha, h0]
    · rw [cells_one (vAgg_one h1)]; exact hcv
    · rw [hg, vAgg_one h1]

theorem field_does (hI : Inv g σ w) {t : TypeId} {i : Nat} {a : AV} {x : Value} {K : AV → AST → Prop} (ha : relV g w a x) (hst : ∃ fs, P.underlying t = some (.struct fs)) (h : fieldW P t a i (fun v => K v σ)) :
    Does P g w (Instr.field t x i) K := by
  obtain ⟨fs, hfs⟩ := hst
  unfold fieldW at h
  split at h
  · rename_i ps
    split at h
    · rename_i v hv
      obtain ⟨⟨T, hT, hf⟩, hK⟩ := h
      simp only [placeOf, hfs, Option.map_eq_some_iff] at hT
      obtain ⟨f, hf1, hf2⟩ := hT
      simp only [Prod.mk.injEq] at hf2
      obtain ⟨cs, rfl, hr⟩ := relV_agg ha rfl
      simp only [relC] at hr
      obtain ⟨y, hy, hv'⟩ := run_part hr hv hf
      exact Does.pure hI (by simp [Instr.field, run_underlying hfs, hf1, asAgg, hf2.1, hf2.2, hy]) hv' hK
    · exact h.elim
  · exact h.elim

theorem extract_does (hI : Inv g σ w) {i : Nat} {vs : List AV} {v : AV} {x : Value} {K : AV → AST → Prop} (ha : relV g w (.tuple vs) x) (hi : vs[i]? = some v) (h : K v σ) : Does P g w (Instr.extract x i) K := by
  obtain ⟨a, rfl, hr⟩ := relV_tuple ha
  have nth : ∀ {vs : List AV} {l : List Value} {i : Nat} {v : AV}, relVs g w vs l → vs[i]? = some v → ∃ y, l[i]? = some y ∧ relC g w v y.cells.toList ∧ v.isAgg = vAgg y := by
    intro vs
    induction vs with
    | nil => intro l i v _ h; simp at h
    | cons u us ih =>
      intro l i v hr hi
      simp only [relVs] at hr
      obtain ⟨y, r, rfl, h1, h2, h3⟩ := hr
      cases i with
      | zero => simp at hi; subst hi; exact ⟨y, rfl, h1, h2⟩
      | succ i => simp at hi ⊢; exact ih h3 hi
  obtain ⟨y, hy, h1, h2⟩ := nth hr hi
  refine Does.pure hI (v := v) (x := y) ?_ (relV_of h1 h2) h
  simp at hy
  simp [Instr.extract, hy]

end Go.Aff

namespace Go.Aff

variable {g g' : G} {w w' : World} {σ σ' : AST} {P : Program}

theorem mk_add (b o n : Nat) : (⟨b, o, none⟩ : Addr).add n = ⟨b, o + n, none⟩ := by unfold Addr.add; split <;> simp_all

theorem off_snoc : ∀ {p : List Nat} {v : AV} {ps : List AV} {i o : Nat}, v.at p = some (.agg ps) → i < ps.length → v.shape.off p = some o →
    v.shape.off (p ++ [i]) = some (o + AV.sizes (ps.take i))
  | [], v, ps, i, o, h, hi, ho => by
    have h1 : v = .agg ps := by rw [at_nil] at h; exact Option.some.inj h
    subst h1
    simp [AV.shape, Shape.off] at ho; subst ho
    simp [AV.shape, Shape.off, shapes_get, hi, sizes_take]
  | k :: p, .agg qs, ps, i, o, h, hi, ho => by
    simp only [AV.at, Option.bind_eq_some_iff] at h
    obtain ⟨x, hx, h⟩ := h
    simp only [AV.shape, Shape.off, shapes_get, hx, Option.map_some, Option.bind_some, Option.map_eq_some_iff, sizes_take] at ho
    obtain ⟨o', ho', rfl⟩ := ho
    have ih := off_snoc h hi ho'
    simp only [List.cons_append, AV.shape, Shape.off, shapes_get, hx, Option.map_some, Option.bind_some, ih, sizes_take, Option.some.injEq]; omega
  | [k], .dig d, ps, i, o, h, hi, ho => by simp [AV.at] at h
  | k :: l :: p, .dig d, ps, i, o, h, hi, ho => by simp [AV.at] at h
  | k :: p, .undef, _, _, _, h, _, _ | k :: p, .bool _, _, _, _, h, _, _ | k :: p, .int _ _, _, _, _, h, _, _ | k :: p, .str _, _, _, _, h, _, _ | k :: p, .ptr _, _, _, _, h, _, _ | k :: p, .slice _ _, _, _, _, h, _, _ | k :: p, .eptr _, _, _, _, h, _, _
  | k :: p, .mp _, _, _, _, h, _, _ | k :: p, .fn _ _ _, _, _, _, h, _, _ | k :: p, .nilFn, _, _, _, h, _, _ | k :: p, .lit _, _, _, _, h, _, _ | k :: p, .tuple _, _, _, _, h, _, _ | k :: p, .iface _ _, _, _, _, h, _, _ | k :: p, .nilIface, _, _, _, h, _, _ => by simp [AV.at] at h

theorem off_snoc_dig : ∀ {p : List Nat} {v : AV} {d : Dig} {i o : Nat}, v.at p = some (.dig d) → i < 32 → v.shape.off p = some o →
    v.shape.off (p ++ [i]) = some (o + i)
  | [], v, d, i, o, h, hi, ho => by
    have h1 : v = .dig d := by rw [at_nil] at h; exact Option.some.inj h
    subst h1
    simp [AV.shape, Shape.off] at ho; subst ho
    simp [AV.shape, Shape.off, hi]
  | k :: p, .agg qs, d, i, o, h, hi, ho => by
    simp only [AV.at, Option.bind_eq_some_iff] at h
    obtain ⟨x, hx, h⟩ := h
    simp only [AV.shape, Shape.off, shapes_get, hx, Option.map_some, Option.bind_some, Option.map_eq_some_iff, sizes_take] at ho
    obtain ⟨o', ho', rfl⟩ := ho
    have ih := off_snoc_dig h hi ho'
    simp only [List.cons_append, AV.shape, Shape.off, shapes_get, hx, Option.map_some, Option.bind_some, ih, sizes_take, Option.some.injEq]; omega
  | [k], .dig d', d, i, o, h, hi, ho => by simp [AV.at] at h
  | k :: l :: p, .dig d', d, i, o, h, hi, ho => by simp [AV.at] at h
  | k :: p, .undef, _, _, _, h, _, _ | k :: p, .bool _, _, _, _, h, _, _ | k :: p, .int _ _, _, _, _, h, _, _ | k :: p, .str _, _, _, _, h, _, _ | k :: p, .ptr _, _, _, _, h, _, _ | k :: p, .slice _ _, _, _, _, h, _, _ | k :: p, .eptr _, _, _, _, h, _, _
  | k :: p, .mp _, _, _, _, h, _, _ | k :: p, .fn _ _ _, _, _, _, h, _, _ | k :: p, .nilFn, _, _, _, h, _, _ | k :: p, .lit _, _, _, _, h, _, _ | k :: p, .tuple _, _, _, _, h, _, _ | k :: p, .iface _ _, _, _, _, h, _, _ | k :: p, .nilIface, _, _, _, h, _, _ => by simp [AV.at] at h

theorem eptr_part {b o : Nat} {ps : List AV} {cv : List Value} {i : Nat} {x : AV} (hv : relC g w (.agg ps) cv) (hr : rd w b o cv) (hb : g.below b (o + cv.length)) (hi : ps[i]? = some x) :
    relV g w (.eptr x) (.pointer (some ⟨b, o + AV.sizes (ps.take i), none⟩)) := by
  simp only [relC] at hv
  obtain ⟨cx, hx, hcell, hle⟩ := relPs_nth hv hi
  refine relV_of ?_ rfl
  simp only [relC, Value.cells]
  obtain ⟨c, e, fr, hc, hk⟩ := hr
  refine ⟨b, _, cx, rfl, hx, ⟨c, e, fr, hc, fun j hj => ?_⟩, ?_⟩
  · rw [← hcell j hj, ← hk _ (by omega)]; congr 1; omega
  · rcases hb with hb | ⟨L, hL, hl⟩
    · exact .inl hb
    · exact .inr ⟨L, hL, by omega⟩

theorem fieldAddr_does (hI : Inv g σ w) {t : TypeId} {i : Nat} {a : AV} {x : Value} {K : AV → AST → Prop} (ha : relV g w a x) (hst : ∃ fs, P.underlying t = some (.struct fs))
    (h : fieldAddrW P σ t a i (fun v => K v σ)) : Does P g w (Instr.fieldAt t x i) K := by
  obtain ⟨fs, hfs⟩ := hst
  have place : ∀ {ps : List AV} {v : AV}, partIs P t ps i v → 0 < v.size → ∃ f, fs[i]? = some f ∧ ∀ (b o : Nat), (fieldPlace ⟨b, o, none⟩ f).run P w = .ok ⟨b, o + AV.sizes (ps.take i), none⟩ w := by
    rintro ps v ⟨T, hT, hf⟩ hpos
    simp only [placeOf, hfs, Option.map_eq_some_iff, Prod.mk.injEq] at hT
    obtain ⟨f, hf1, hf2, hf3⟩ := hT
    obtain ⟨d, hd⟩ := fits_under hf
    refine ⟨f, hf1, fun b o => ?_⟩
    have hne : ¬ (P.cellsOf T = 0) := by rw [hf.2]; omega
    simp [fieldPlace, hf3, run_sizeOf' hd, hne, hf2, mk_add]
  unfold fieldAddrW at h
  split at h
  · rename_i j p
    split at h
    · rename_i v hobj
      split at h
      · rename_i ps hat
        split at h
        · rename_i y hy
          obtain ⟨hp, hpos, hK⟩ := h
          obtain ⟨f, hf1, hf2⟩ := place hp hpos
          obtain ⟨b, sh, o, hg, ho, rfl⟩ := relV_ptr ha
          obtain ⟨_, _, c, e, fr, hc, _, hr, hs⟩ := obj_cells hI hobj hg
          refine Does.pure hI (x := .pointer (some ⟨b, o + AV.sizes (ps.take i), none⟩)) (by simp [Instr.fieldAt, run_underlying hfs, hf1, Instr.sureAddr, hf2]) (relV_of ?_ rfl) hK
          simp only [relC, Value.cells]
          refine ⟨b, sh, _, hg, ?_, rfl⟩
          rw [← hs] at ho ⊢
          exact off_snoc hat (List.getElem?_eq_some_iff.1 hy).1 ho
        · exact h.elim
      · exact h.elim
    · exact h.elim
  · rename_i ps
    split at h
    · rename_i y hy
      obtain ⟨hp, hpos, hK⟩ := h
      obtain ⟨f, hf1, hf2⟩ := place hp hpos
      obtain ⟨b, o, cv, rfl, hv, hr, hb⟩ := relV_eptr ha
      exact Does.pure hI (by simp [Instr.fieldAt, run_underlying hfs, hf1, Instr.sureAddr, hf2]) (eptr_part hv hr hb hy) hK
    · exact h.elim
  · exact h.elim

theorem index_does (hI : Inv g σ w) {t : TypeId} {a i : AV} {x y : Value} {K : AV → AST → Prop} (ha : relV g w a x) (hi : relV g w i y) (h : indexW P t a i (fun v => K v σ)) :
    Does P g w (Instr.index t x y) K := by
  unfold indexW at h
  split at h
  · rename_i k n
    obtain rfl := relV_int hi
    split at h
    · rename_i s
      obtain ⟨hu, h0, h1, hK⟩ := h
      obtain ⟨rfl, _⟩ := relV_str ha
      have hlt : n.toNat < s.length := by omega
      have hb := hK s[n.toNat] (List.getElem?_eq_getElem hlt)
      refine Does.pure hI (v := .int .u8 s[n.toNat].toNat) (x := .int .u8 s[n.toNat].toNat) ?_ (relV_mkInt _ _) hb
      have e : (⟨s.toArray⟩ : ByteArray)[n.toNat]? = some s[n.toNat] := by
        show (if h : n.toNat < (⟨s.toArray⟩ : ByteArray).size then some _ else none) = _
        have hsz : (⟨s.toArray⟩ : ByteArray).size = s.length := by show s.toArray.size = _; simp
        rw [dif_pos (by rw [hsz]; exact hlt)]
        rfl
      simp [Instr.index, asIntOf, run_underlying hu, h0, e]
    · rename_i d
      obtain ⟨⟨e, hu, hf⟩, h0, h1, hK⟩ := h
      obtain ⟨cs, rfl, hr⟩ := relV_agg ha rfl
      have hlt : n.toNat < d.l.length := by omega
      have hb := hK d.l[n.toNat] (List.getElem?_eq_getElem hlt)
      obtain ⟨dd, hd⟩ := fits_under hf
      have h1' : n < ((32 : Nat) : Int) := by rw [d.h] at h1; exact_mod_cast h1
      simp only [relC] at hr
      have hcell : cs[n.toNat]? = some (.int .u8 d.l[n.toNat].toNat) := by
        rw [← Array.getElem?_toList, hr]; simp [hlt]
      have hsz : P.cellsOf e = 1 := hf.2
      have hag : aggT P e = some false := hf.1
      refine Does.pure hI (v := .int .u8 d.l[n.toNat].toNat) (x := .int .u8 d.l[n.toNat].toNat) ?_ (relV_mkInt _ _) hb
      simp [Instr.index, asIntOf, run_underlying hu, h0, h1', run_sizeOf' hd, hsz, part, run_isAgg' hag, hcell]
      omega
    · rename_i ps
      obtain ⟨h0, h1, hK⟩ := h
      have hlt : n.toNat < ps.length := by omega
      obtain ⟨⟨T, hT, hf⟩, ⟨e, hu⟩, hk⟩ := hK _ (List.getElem?_eq_getElem hlt)
      obtain ⟨cs, rfl, hr⟩ := relV_agg ha rfl
      simp only [relC] at hr
      simp only [placeOf, hu] at hT
      rw [if_pos hlt] at hT
      simp only [Option.some.injEq, Prod.mk.injEq] at hT
      obtain ⟨hT1, rfl⟩ := hT
      obtain ⟨dd, hd⟩ := fits_under hf
      obtain ⟨z, hz, hv⟩ := run_part (P := P) hr (List.getElem?_eq_getElem hlt) hf
      refine Does.pure hI ?_ hv hk
      have h1' : n < (ps.length : Int) := h1
      simp only [Instr.index, asIntOf, Sem.run_bind, Sem.run_pure, Result.andThen_ok, run_underlying hu, h0, h1', and_self, if_true, run_sizeOf' hd, hT1]
      exact hz
    · exact h.elim
  · exact h.elim

end Go.Aff

namespace Go.Aff

variable {g g' : G} {w w' : World} {σ σ' : AST} {P : Program}

theorem indexAddr_does (hI : Inv g σ w) {t : TypeId} {a i : AV} {x y : Value} {K : AV → AST → Prop} (ha : relV g w a x) (hi : relV g w i y) (h : indexAddrW P σ t a i (fun v => K v σ)) :
    Does P g w (Instr.indexAt t x y) K := by
  unfold indexAddrW at h
  split at h
  · rename_i k n
    obtain rfl := relV_int hi
    split at h
    · rename_i tk xs
      obtain ⟨e, hu, h0, h1, hK⟩ := h
      have hlt : n.toNat < xs.length := by omega
      obtain ⟨hf, hpos, hk⟩ := hK _ (List.getElem?_eq_getElem hlt)
      obtain ⟨ad', a', c, es, css, rfl, had, hes, hc, _, hnone, hmem, _⟩ := relV_slice ha
      obtain ⟨dd, hd⟩ := fits_under hf
      obtain ⟨cx, hcx, hlx, hcell, hle⟩ := relEs_nth hes (List.getElem?_eq_getElem hlt)
      have hce : P.cellsOf e = es := by rw [hf.2, ← relC_size hcx, hlx]
      cases a' with
      | none => have := hnone rfl; omega
      | some bo =>
        obtain ⟨b, o⟩ := bo
        obtain rfl := had.some
        refine Does.pure hI (x := .pointer (some ⟨b, o + n.toNat * es, none⟩)) (v := .eptr xs[n.toNat]) ?_ (relV_of ?_ rfl) hk
        · simp [Instr.indexAt, asIntOf, run_underlying hu, h0, h1, run_sizeOf' hd, hce, mkAddr, mk_add]
        · simp only [relC, Value.cells]
          refine ⟨b, _, cx, rfl, hcx, ?_⟩
          rcases hmem b o rfl with hnil | ⟨⟨c', e', fr, hc', hj⟩, hb⟩
          · subst hnil
            have : cx = [] := by
              apply List.eq_nil_of_length_eq_zero
              simp only [List.length_nil] at hle
              rw [hlx]; omega
            subst this
            exfalso
            have hsz := relC_size hcx
            simp at hsz
            omega
          · refine ⟨⟨c', e', fr, hc', fun j hjl => ?_⟩, ?_⟩
            · rw [← hcell j hjl, ← hj _ (by omega)]; congr 1; omega
            · rcases hb with hb | ⟨L, hL, hl⟩
              · exact .inl hb
              · exact .inr ⟨L, hL, by omega⟩
    · rename_i j p
      split at h
      · rename_i v hobj
        split at h
        · rename_i ps hat
          obtain ⟨h0, h1, hK⟩ := h
          have hlt : n.toNat < ps.length := by omega
          obtain ⟨⟨T, hT, hf⟩, ⟨e, hu⟩, hk⟩ := hK _ (List.getElem?_eq_getElem hlt)
          simp only [placeOf, hu] at hT
          rw [if_pos hlt] at hT
          simp only [Option.some.injEq, Prod.mk.injEq] at hT
          obtain ⟨hT1, rfl⟩ := hT
          obtain ⟨dd, hd⟩ := fits_under hf
          obtain ⟨b, sh, o, hg, ho, rfl⟩ := relV_ptr ha
          obtain ⟨_, _, c, e', fr, hc, _, hr, hs⟩ := obj_cells hI hobj hg
          refine Does.pure hI (x := .pointer (some ⟨b, o + AV.sizes (ps.take n.toNat), none⟩)) ?_ (relV_of ?_ rfl) hk
          · simp [Instr.indexAt, asIntOf, run_underlying hu, h0, h1, run_sizeOf' hd, Instr.sureAddr, mk_add, ← hT1]
          · simp only [relC, Value.cells]
            refine ⟨b, sh, _, hg, ?_, rfl⟩
            rw [← hs] at ho ⊢
            exact off_snoc hat hlt ho
        · rename_i d hat
          obtain ⟨h0, h1, hK⟩ := h
          have hlt : n.toNat < d.l.length := by omega
          obtain ⟨⟨e, hu, hf⟩, hk⟩ := hK _ (List.getElem?_eq_getElem hlt)
          obtain ⟨dd, hd⟩ := fits_under hf
          have hce : P.cellsOf e = 1 := hf.2
          have h1' : n < ((32 : Nat) : Int) := by rw [d.h] at h1; exact_mod_cast h1
          obtain ⟨b, sh, o, hg, ho, rfl⟩ := relV_ptr ha
          obtain ⟨_, _, c, e', fr, hc, _, hr, hs⟩ := obj_cells hI hobj hg
          refine Does.pure hI (x := .pointer (some ⟨b, o + n.toNat, none⟩)) ?_ (relV_of ?_ rfl) hk
          · simp [Instr.indexAt, asIntOf, run_underlying hu, h0, run_sizeOf' hd, Instr.sureAddr, mk_add, hce]
            omega
          · simp only [relC, Value.cells]
            refine ⟨b, sh, _, hg, ?_, rfl⟩
            rw [← hs] at ho ⊢
            exact off_snoc_dig hat (by omega) ho
        · exact h.elim
      · exact h.elim
    · rename_i ps
      obtain ⟨h0, h1, hK⟩ := h
      have hlt : n.toNat < ps.length := by omega
      obtain ⟨⟨T, hT, hf⟩, ⟨e, hu⟩, hk⟩ := hK _ (List.getElem?_eq_getElem hlt)
      simp only [placeOf, hu] at hT
      rw [if_pos hlt] at hT
      simp only [Option.some.injEq, Prod.mk.injEq] at hT
      obtain ⟨hT1, rfl⟩ := hT
      obtain ⟨dd, hd⟩ := fits_under hf
      obtain ⟨b, o, cv, rfl, hv, hr, hb⟩ := relV_eptr ha
      refine Does.pure hI ?_ (eptr_part hv hr hb (List.getElem?_eq_getElem hlt)) hk
      simp [Instr.indexAt, asIntOf, run_underlying hu, h0, h1, run_sizeOf' hd, Instr.sureAddr, mk_add, ← hT1]
    · rename_i j p m
      split at h
      · rename_i v hobj
        split at h
        · rename_i ps hat
          obtain ⟨e, hu, hm, hsz, h0, h1, hK⟩ := h
          have h1' : n < (m : Int) := by rw [List.length_take, Nat.min_eq_left hm] at h1; exact h1
          have hlt : n.toNat < ps.length := by omega
          obtain ⟨hf, hk⟩ := hK ps[n.toNat] (by rw [List.getElem?_take, if_pos (by omega)]; exact List.getElem?_eq_getElem hlt)
          obtain ⟨dd, hd⟩ := fits_under hf
          have hsc := (relV_scalar ha rfl rfl).1
          simp only [relC, List.cons.injEq, and_true] at hsc
          obtain ⟨b, sh, o, c, hg, ho, rfl, hmc, hcm⟩ := hsc
          obtain ⟨_, _, c', e', fr, hc, _, hr, hs⟩ := obj_cells hI hobj hg
          refine Does.pure hI (x := .pointer (some ⟨b, o + n.toNat * P.cellsOf e, none⟩)) ?_ (relV_of ?_ rfl) hk
          · simp [Instr.indexAt, asIntOf, run_underlying hu, h0, h1', run_sizeOf' hd, mkAddr, mk_add]
          · simp only [relC, Value.cells]
            refine ⟨b, sh, _, hg, ?_, rfl⟩
            rw [← hs] at ho ⊢
            rw [← hsz]
            exact off_snoc hat hlt ho
        · exact h.elim
      · exact h.elim
    · exact h.elim
  · exact h.elim

/-! ### Literals -/

theorem foldl_splice (off : Nat) : ∀ (vs : List Value) (k : Nat) (cells : Array Value), off + k + vs.length ≤ cells.size →
    ((vs.zipIdx k).foldl (fun cs (x : Value × Nat) => cs.setIfInBounds (off + x.2) x.1) cells).toList = splice cells.toList (off + k) vs
  | [], k, cells, _ => by simp [splice]
  | v :: vs, k, cells, h => by
    simp only [List.zipIdx_cons, List.foldl_cons]
    simp only [List.length_cons] at h
    rw [foldl_splice off vs (k + 1) _ (by simp; omega)]
    apply List.ext_getElem?
    intro j
    rw [splice_get (by simp; omega), splice_get (by simp; omega)]
    simp only [List.length_cons, Array.toList_setIfInBounds, List.getElem?_set]
    by_cases e : j = off + k
    · subst e
      rw [if_neg (by omega), if_pos (by omega)]
      simp; omega
    · by_cases e2 : off + (k + 1) ≤ j ∧ j < off + (k + 1) + vs.length
      · rw [if_pos e2, if_pos (by omega)]
        have : j - (off + k) = (j - (off + (k + 1))) + 1 := by omega
        rw [this, List.getElem?_cons_succ]
      · rw [if_neg e2, if_neg (by omega), if_neg (by omega)]

def fillCells (off : Nat) (v : Value) (cells : Array Value) : Array Value := v.cells.zipIdx.foldl (fun cs (c, j) => cs.setIfInBounds (off + j) c) cells

theorem fillCells_list {off : Nat} {v : Value} {cells : Array Value} (h : off + v.cells.size ≤ cells.size) : (fillCells off v cells).toList = splice cells.toList off v.cells.toList := by
  have := foldl_splice off v.cells.toList 0 cells (by simpa using h)
  simp only [Nat.add_zero] at this
  rw [← this]
  unfold fillCells
  rw [← Array.foldl_toList]
  simp

theorem fill_does {t : TypeId} {place : Nat → Option (Nat × Nat)} (hpl : ∀ i o T, placeOf P t i = some (o, T) → (∃ d, P.underlying T = some d) → place i = some (o, P.cellsOf T)) :
    ∀ (parts : List (Nat × AV)) (xs : List (Nat × Value)) (v : AV) (cells : Array Value) (K : AV → Prop), parts.map (·.1) = xs.map (·.1) →
      (∀ (j : Nat) p x, parts[j]? = some p → xs[j]? = some x → relV g w p.2 x.2) → relC g w v cells.toList → fillW P t parts v K →
      ∃ cells' v', Instr.fill place cells xs = some cells' ∧ relC g w v' cells'.toList ∧ v'.isAgg = v.isAgg ∧ K v'
  | [], xs, v, cells, K, hm, _, hr, h => by
    have : xs = [] := by cases xs <;> simp_all
    subst this
    refine ⟨cells, v, by simp [Instr.fill], hr, rfl, ?_⟩
    unfold fillW at h; exact h
  | (i, x) :: parts, [], v, cells, K, hm, _, hr, h => by simp at hm
  | (i, x) :: parts, (i', y) :: xs, v, cells, K, hm, hrel, hr, h => by
    simp only [List.map_cons, List.cons.injEq] at hm
    obtain ⟨rfl, hm⟩ := hm
    have hxy : relV g w x y := hrel 0 _ _ rfl rfl
    have hrest := fun (j : Nat) p z (hp : parts[j]? = some p) (hz : xs[j]? = some z) => hrel (j + 1) p z (by simpa using hp) (by simpa using hz)
    cases v with
    | agg ps =>
      simp only [fillW] at h
      obtain ⟨u, hu, ⟨T, hT, hf⟩, hsh, hkn, hrec⟩ := h
      simp only [relC] at hr
      obtain ⟨cu, hcu, hcell, hle⟩ := relPs_nth hr hu
      obtain ⟨hy, hya⟩ := relV_known hxy hkn
      have hxs : x.size = u.size := shape_size hsh.symm
      have hlen : y.cells.size = x.size := by rw [← relC_size hy]; simp
      have hcul := relC_size hcu
      simp only [Array.length_toList] at hle
      have hpi := hpl _ _ _ hT (fits_under hf)
      have hset := relPs_set hr hu hy hxs
      rw [← fillCells_list (by omega)] at hset
      have hset' : relC g w (.agg (ps.set i x)) (fillCells (AV.sizes (ps.take i)) y cells).toList := by simpa only [relC] using hset
      obtain ⟨cells', v', h1, h2, h3, h4⟩ := fill_does hpl parts xs _ _ K hm hrest hset' hrec
      refine ⟨cells', v', ?_, h2, by rw [h3]; rfl, h4⟩
      rw [← h1]
      conv => lhs; unfold Instr.fill
      simp only [hpi, hf.2, hlen, bne_self_eq_false]
      rw [if_neg (by simp; omega)]
      rfl
    | dig d =>
      have hx : ∃ n, x = .int .u8 n := by
        cases x with
        | int k n => cases k <;> first | exact ⟨n, rfl⟩ | simp [fillW] at h
        | _ => simp [fillW] at h
      obtain ⟨n, rfl⟩ := hx
      simp only [fillW] at h
      obtain ⟨⟨e, hu, hf⟩, hi, h0, h1, hrec⟩ := h
      obtain rfl := relV_int hxy
      simp only [relC] at hr
      have hlen : cells.size = 32 := by rw [← Array.length_toList, hr]; simp [d.h]
      have hce : P.cellsOf e = 1 := hf.2
      have hpi : place i = some (i, 1) := by
        have := hpl i (i * P.cellsOf e) e (by simp only [placeOf, hu]; rw [if_pos hi]) (fits_under hf)
        rw [this, hce]; simp
      have hset : relC g w (.dig (d.set i n)) (fillCells i (.int .u8 n) cells).toList := by
        have hin : setOk (.dig d) [i] (.int .u8 n) := ⟨rfl, h0, h1⟩
        have hat : (AV.dig d).at [i] = some (.int .u8 (d.l[i]'(by rw [d.h]; exact hi)).toNat) := by simp [AV.at, d.h, hi]
        have := setAt_rel (g := g) (w := w) (v := .dig d) (p := [i]) (x := .int .u8 n) (cs := cells.toList) (cx := [.int .u8 n]) (o := i) (by simpa only [relC] using hr) hat (by simp [AV.shape, Shape.off, hi]) (by simp [relC]) rfl hin
        rw [fillCells_list (by simp [Value.cells]; omega)]
        simpa [AV.setAt, Value.cells] using this
      obtain ⟨cells', v', h1', h2, h3, h4⟩ := fill_does hpl parts xs _ _ K hm hrest hset hrec
      refine ⟨cells', v', ?_, h2, by rw [h3]; rfl, h4⟩
      rw [← h1']
      conv => lhs; unfold Instr.fill
      have hl1 : (Value.int .u8 n).cells.size = 1 := rfl
      simp only [hpi, hl1, bne_self_eq_false]
      rw [if_neg (by simp; omega)]
      rfl
    | _ => simp [fillW] at h

theorem run_mapM_fields {α : Type} (f : Field → Sem α) (v : Field → α) : ∀ (l : List Field), (∀ x ∈ l, ∀ w, (f x).run P w = .ok (v x) w) → ∀ w : World, (l.mapM f).run P w = .ok (l.map v) w
  | [], _, w => by simp
  | x :: l, h, w => by
    simp only [List.mapM_cons, Sem.run_bind, h x (by simp), Result.andThen_ok, run_mapM_fields f v l (fun y hy => h y (by simp [hy])) w, Sem.run_pure, List.map_cons]

theorem build_does (hI : Inv g σ w) {t : TypeId} {parts : List (Nat × AV)} {xs : List (Nat × Value)} {K : AV → AST → Prop} {z : AV} (hz : ZeroOf P t z) (hb : Built P t)
    (hm : parts.map (·.1) = xs.map (·.1)) (hrel : ∀ (j : Nat) p x, parts[j]? = some p → xs[j]? = some x → relV g w p.2 x.2) (h : fillW P t parts z (fun v => K v σ)) (hza : z.isAgg = true) :
    Does P g w (Instr.build t xs.toArray) K := by
  obtain ⟨i, zv, hi, hzv, hc, ha, hs⟩ := hz
  have hzr : (zeroValue t).run P w = .ok zv w := by simp [zeroValue, typeInfo, hi, hzv]
  have hr := conc_rel g w hc
  unfold Built at hb
  split at hb
  · rename_i fs hu
    have hpl : ∀ i o T, placeOf P t i = some (o, T) → (∃ d, P.underlying T = some d) → (fs.map fun f => (f.offset, P.cellsOf f.type))[i]? = some (o, P.cellsOf T) := by
      intro i o T h1 _
      simp only [placeOf, hu, Option.map_eq_some_iff, Prod.mk.injEq] at h1
      obtain ⟨f, hf, rfl, rfl⟩ := h1
      simp [hf]
    obtain ⟨cells', v', h1, h2, h3, h4⟩ := fill_does hpl parts xs z zv.cells (fun v => K v σ) hm hrel hr h
    have hmap : (fs.mapM fun f => (do pure (f.offset, ← sizeOf f.type) : Sem (Nat × Nat))).run P w = .ok (fs.map fun f => (f.offset, P.cellsOf f.type)) w := by
      rw [Array.mapM_eq_mapM_toList]
      have hall := List.all_eq_true.1 hb
      have := run_mapM_fields (P := P) (fun f => (do pure (f.offset, ← sizeOf f.type) : Sem (Nat × Nat))) (fun f => (f.offset, P.cellsOf f.type)) fs.toList (fun x hx w => by
        obtain ⟨ti, hti⟩ := Option.isSome_iff_exists.1 (hall x hx)
        simp [sizeOf, typeInfo, hti, Program.cellsOf]) w
      simp only [Sem.run_map, this, Result.andThen_ok]
      congr 1
      apply Array.ext'
      simp
    refine Does.pure hI (x := .agg cells') (v := v') ?_ (relV_of (by simpa [Value.cells] using h2) (by rw [h3, hza]; rfl)) h4
    simp only [Instr.build, Sem.run_bind, hzr, Result.andThen_ok, run_underlying hu, hmap]
    simp only [h1, Sem.run_pure]
  · rename_i n e hu
    have hpl : ∀ i o T, placeOf P t i = some (o, T) → (∃ d, P.underlying T = some d) → (fun i => some (i * P.cellsOf e, P.cellsOf e)) i = some (o, P.cellsOf T) := by
      intro i o T h1 _
      simp only [placeOf, hu] at h1
      split at h1
      · simp only [Option.some.injEq, Prod.mk.injEq] at h1; obtain ⟨rfl, rfl⟩ := h1; rfl
      · cases h1
    obtain ⟨cells', v', h1, h2, h3, h4⟩ := fill_does hpl parts xs z zv.cells (fun v => K v σ) hm hrel hr h
    obtain ⟨ti, hti⟩ := Option.isSome_iff_exists.1 hb
    have hse : (sizeOf e).run P w = .ok (P.cellsOf e) w := by simp [sizeOf, typeInfo, hti, Program.cellsOf]
    refine Does.pure hI (x := .agg cells') (v := v') ?_ (relV_of (by simpa [Value.cells] using h2) (by rw [h3, hza]; rfl)) h4
    simp only [Instr.build, Sem.run_bind, hzr, Result.andThen_ok, run_underlying hu, hse]
    simp only [h1, Sem.run_pure]
  · exact hb.elim

end Go.Aff

namespace Go.Aff

variable {g g' : G} {w w' : World} {σ σ' : AST} {P : Program}

theorem fill_row (size : Nat) : ∀ (xs : List Value) (k : Nat) (cells : Array Value), (∀ x ∈ xs, x.cells.size = size) → cells.size = (k + xs.length) * size →
    ∃ cells', Instr.fill (fun i => some (i * size, size)) cells ((xs.zipIdx k).map fun x => (x.2, x.1)) = some cells' ∧
      cells'.toList = cells.toList.take (k * size) ++ (xs.map (·.cells.toList)).flatten
  | [], k, cells, _, hs => by
    refine ⟨cells, by simp [Instr.fill], ?_⟩
    simp at hs
    have : cells.toList.take (k * size) = cells.toList := List.take_of_length_le (by simp; omega)
    simp [this]
  | x :: xs, k, cells, hx, hs => by
    have h1 := hx x (by simp)
    simp only [List.length_cons] at hs
    have e1 : (k + (xs.length + 1)) * size = k * size + size + xs.length * size := by rw [Nat.add_mul, Nat.add_mul]; omega
    have hle : k * size + x.cells.size ≤ cells.size := by rw [hs, h1, e1]; omega
    have hfl := fillCells_list hle
    have hsz : (fillCells (k * size) x cells).size = cells.size := by
      rw [← Array.length_toList, hfl, splice_length (by simpa using hle), Array.length_toList]
    obtain ⟨cells', h2, h3⟩ := fill_row size xs (k + 1) (fillCells (k * size) x cells) (fun y hy => hx y (by simp [hy])) (by rw [hsz, hs]; congr 1; omega)
    refine ⟨cells', ?_, ?_⟩
    · simp only [List.zipIdx_cons, List.map_cons]
      rw [← h2]
      conv => lhs; unfold Instr.fill
      simp only [h1, bne_self_eq_false]
      rw [if_neg (by simp; omega)]
      rfl
    · rw [h3, hfl]
      simp only [List.map_cons, List.flatten_cons, ← List.append_assoc]
      congr 1
      apply List.ext_getElem?
      intro j
      have hcl : x.cells.toList.length = size := by simpa using h1
      have e2 : (k + 1) * size = k * size + size := by rw [Nat.add_mul]; omega
      rw [List.getElem?_take, List.getElem?_append, e2, List.length_take, splice_get (by simpa using hle)]
      have : min (k * size) cells.toList.length = k * size := by simp; omega
      rw [this]
      by_cases hj : j < k * size
      · rw [if_pos (by omega), if_neg (by omega), if_pos hj, List.getElem?_take, if_pos hj]
      · rw [if_neg hj]
        by_cases hj2 : j < k * size + size
        · rw [if_pos hj2, if_pos (by omega)]
        · rw [if_neg hj2, List.getElem?_eq_none (by omega)]

theorem relEs_flatten {es : Nat} : ∀ {vs : List AV} {xs : List Value}, vs.length = xs.length → (∀ (j : Nat) v x, vs[j]? = some v → xs[j]? = some x → relC g w v x.cells.toList ∧ x.cells.size = es) →
    relEs g w es vs (xs.map (·.cells.toList)).flatten
  | [], [], _, _ => by simp [relEs]
  | [], _ :: _, h, _ => by simp at h
  | _ :: _, [], h, _ => by simp at h
  | v :: vs, x :: xs, h, hr => by
    obtain ⟨h1, h2⟩ := hr 0 v x rfl rfl
    simp only [List.map_cons, List.flatten_cons, relEs]
    exact ⟨_, _, rfl, by simpa using h2, h1, relEs_flatten (by simpa using h) fun j v x hv hx => hr (j + 1) v x (by simpa using hv) (by simpa using hx)⟩

theorem zip_range {α : Type} : ∀ (l : List (Nat × α)) (k : Nat), l.map (·.1) = List.range' k l.length → l = ((l.map (·.2)).zipIdx k).map fun x => (x.2, x.1)
  | [], _, _ => rfl
  | (i, x) :: l, k, h => by
    simp only [List.map_cons, List.length_cons, List.range'_succ, List.cons.injEq] at h
    obtain ⟨rfl, h⟩ := h
    simp only [List.map_cons, List.zipIdx_cons, List.cons.injEq, true_and]
    exact zip_range l _ h

theorem buildSlice_does (hI : Inv g σ w) {t : TypeId} {len : Nat} {parts : List (Nat × AV)} {xs : List (Nat × Value)} {K : AV → AST → Prop}
    (hm : parts.map (·.1) = xs.map (·.1)) (hrel : ∀ (j : Nat) p x, parts[j]? = some p → xs[j]? = some x → relV g w p.2 x.2) (h : buildSliceW P t len parts (fun v => K v σ)) :
    Does P g w (Instr.buildSlice t len xs.toArray) K := by
  obtain ⟨e, hu, hrange, hbig, hfit, ⟨z, hz⟩, hpos, hK⟩ := h
  obtain ⟨i, zv, hi, hzv, hc, ha, hs⟩ := hz
  have hzr : (zeroValue e).run P w = .ok zv w := by simp [zeroValue, typeInfo, hi, hzv]
  have hse : (sizeOf e).run P w = .ok (P.cellsOf e) w := by simp [sizeOf, typeInfo, hi, Program.cellsOf]
  have hlen : xs.length = len := by
    have : (xs.map (·.1)).length = len := by rw [← hm, hrange]; simp
    simpa using this
  have hpl : parts.length = len := by
    have : (parts.map (·.1)).length = len := by rw [hrange]; simp
    simpa using this
  have hxs : xs = ((xs.map (·.2)).zipIdx 0).map fun x => (x.2, x.1) := zip_range xs 0 (by rw [← hm, hrange, hlen, List.range_eq_range'])
  have hval : ∀ (j : Nat) v x, (parts.map (·.2))[j]? = some v → (xs.map (·.2))[j]? = some x → relC g w v x.cells.toList ∧ x.cells.size = P.cellsOf e := by
    intro j v x hv hx
    simp only [List.getElem?_map, Option.map_eq_some_iff] at hv hx
    obtain ⟨p, hp, rfl⟩ := hv
    obtain ⟨q, hq, rfl⟩ := hx
    have hr := hrel j p q hp hq
    obtain ⟨hf, hk⟩ := hfit p.2 (List.mem_map.2 ⟨p, List.mem_iff_getElem?.2 ⟨j, hp⟩, rfl⟩)
    obtain ⟨h1, h2⟩ := relV_known hr hk
    refine ⟨h1, ?_⟩
    have := relC_size h1
    rw [hf.2, ← this]; simp
  have hcells : ∀ x ∈ xs.map (·.2), x.cells.size = P.cellsOf e := by
    intro x hx
    obtain ⟨j, hj⟩ := List.mem_iff_getElem?.1 hx
    have hjl : j < (parts.map (·.2)).length := by have := (List.getElem?_eq_some_iff.1 hj).1; simp at this ⊢; omega
    exact (hval j _ x (List.getElem?_eq_getElem hjl) hj).2
  obtain ⟨cells', h1, h2⟩ := fill_row (P.cellsOf e) (xs.map (·.2)) 0 ((Array.range (len * P.cellsOf e)).map (zv.cells[· % zv.cells.size]!)) hcells (by simp [hlen])
  simp only [Nat.zero_mul, List.take_zero, List.nil_append] at h2
  rw [← hxs] at h1
  have hes := relEs_flatten (g := g) (w := w) (vs := parts.map (·.2)) (xs := xs.map (·.2)) (by simp [hlen, hpl]) hval
  rw [← h2] at hes
  have hsz := relEs_size hes
  simp only [List.length_map, hpl] at hsz
  obtain ⟨hE, hI'⟩ := inv_row (c := cells') (e := e) (fr := (0, 0)) (n := len * P.cellsOf e) hI (by rw [← hsz]; simp)
  have hrun : (Instr.buildSlice t len xs.toArray).run P w = .ok (.slice (some ⟨w.heap.size, 0, none⟩) len len) (w.alloc (.cells cells' e)) := by
    have hnb : ¬ (len * P.cellsOf e > 2 ^ 24) := by omega
    by_cases h0 : len * P.cellsOf e = 0
    · have hl0 : len = 0 := by
        rcases Nat.mul_eq_zero.1 h0 with h | h
        · exact h
        · omega
      subst hl0
      have hx0 : xs = [] := List.eq_nil_of_length_eq_zero hlen
      subst hx0
      simp [Instr.fill] at h1
      subst h1
      have e0 : ∀ f : Nat → Value, Array.map f (Array.range 0) = #[] := fun f => by apply Array.ext'; simp
      simp [Instr.buildSlice, run_underlying hu, hse, Instr.fill, newRow, e0]
    · simp only [Instr.buildSlice, Sem.run_bind, run_underlying hu, Result.andThen_ok, hse, Sem.run_ite, hnb, if_false, Sem.run_pure, h0, hzr, h1]
      simp [newRow]
  have hlenb : len ≤ maxL := by
    have : len * 1 ≤ len * P.cellsOf e := Nat.mul_le_mul_left _ hpos
    unfold maxL; omega
  have main : ∀ tk : Tk, (tk = .full ∨ tk = .lit) → K (.slice tk (parts.map (·.2))) σ → Does P g w (Instr.buildSlice t len xs.toArray) K := by
    intro tk htk hK
    refine ⟨_, _, _, _, σ, hrun, hE, hI', relV_of ?_ rfl, hK⟩
    simp only [relC, Value.cells]
    refine ⟨some (mkAddr (w.heap.size, 0)), some (w.heap.size, 0), len, P.cellsOf e, cells'.toList, by simp [mkAddr, hpl], .inl rfl, relEs_mono hE hes, by simp [hpl], hlenb, (fun h => by cases h), (fun b o hbo => .inr ?_), ?_⟩
    · simp only [Option.some.injEq, Prod.mk.injEq] at hbo
      obtain ⟨rfl, rfl⟩ := hbo
      exact ⟨⟨cells', e, (0, 0), alloc_new, fun j hj => by simp⟩, .inr ⟨len * P.cellsOf e, by simp [G.row], by rw [hsz]; omega⟩⟩
    · rcases htk with rfl | rfl
      · simp [tkOk, hpl]
      · exact ⟨by simp [hpl], w.heap.size, 0, _, rfl, hI.base, by simp [G.row]; rfl⟩
  rcases hK with hK | ⟨_, hK⟩
  · exact main .full (.inl rfl) hK
  · exact main .lit (.inr rfl) hK

/-! ### Arithmetic -/

theorem int_does (hI : Inv g σ w) {op : BinOp} {k : IntKind} {a b : Int} {t : TypeId} {K : AV → AST → Prop} (h : intW op k a b (fun v => K v σ)) : Does P g w (binOp op t (.int k a) (.int k b)) K := by
  cases op <;> simp only [intW] at h
  case quo => obtain ⟨h0, h⟩ := h; exact Does.pure hI (by simp [binOp, Op.intDiv, h0]) (relV_mkInt _ _) h
  case rem => obtain ⟨h0, h⟩ := h; exact Does.pure hI (by simp [binOp, Op.intDiv, h0]) (relV_mkInt _ _) h
  case add => exact Does.pure hI (by simp [binOp, Op.intArith]) (relV_mkInt _ _) h
  case sub => exact Does.pure hI (by simp [binOp, Op.intArith]) (relV_mkInt _ _) h
  case mul => exact Does.pure hI (by simp [binOp, Op.intArith]) (relV_mkInt _ _) h
  case eql => exact Does.pure hI (by simp [binOp, Op.intCmp]) (relV_mkBool _) h
  case neq => exact Does.pure hI (by simp [binOp, Op.intCmp]) (relV_mkBool _) h
  case lss => exact Does.pure hI (by simp [binOp, Op.intCmp]) (relV_mkBool _) h
  case leq => exact Does.pure hI (by simp [binOp, Op.intCmp]) (relV_mkBool _) h
  case gtr => exact Does.pure hI (by simp [binOp, Op.intCmp]) (relV_mkBool _) h
  case geq => exact Does.pure hI (by simp [binOp, Op.intCmp]) (relV_mkBool _) h

theorem bytes_toList (l : List UInt8) : (⟨l.toArray⟩ : ByteArray).toList = l := by
  rw [ByteArray.toList_eq]

theorem bytes_size (l : List UInt8) : (⟨l.toArray⟩ : ByteArray).size = l.length := by
  show l.toArray.size = _; simp

theorem str_does (hI : Inv g σ w) {op : BinOp} {a b : List UInt8} {t : TypeId} {K : AV → AST → Prop} (h : strW op a b (fun v => K v σ)) :
    Does P g w (binOp op t (.string ⟨a.toArray⟩) (.string ⟨b.toArray⟩)) K := by
  cases op <;> simp only [strW] at h
  case add =>
    obtain ⟨h0, h⟩ := h
    have hne : ¬ ((((⟨a.toArray⟩ : ByteArray).size + (⟨b.toArray⟩ : ByteArray).size : Nat) : Int) > IntKind.i64.max) := by
      rw [bytes_size, bytes_size]; unfold maxL at h0
      have : IntKind.i64.max = 9223372036854775807 := by decide
      rw [this]; omega
    refine Does.pure hI (x := .string ⟨(a ++ b).toArray⟩) ?_ (relV_mkStr (by simpa using h0)) h
    simp only [binOp, Op.stringOp, hne, if_false, Sem.run_pure]
    congr 2
  case eql => exact Does.pure hI (by simp [binOp, Op.stringOp, bytes_toList]) (relV_mkBool _) h
  case neq => exact Does.pure hI (by simp [binOp, Op.stringOp, bytes_toList]) (relV_mkBool _) h
  case lss => exact Does.pure hI (by simp [binOp, Op.stringOp, bytes_toList]) (relV_mkBool _) h
  case leq => exact Does.pure hI (by simp [binOp, Op.stringOp, bytes_toList]) (relV_mkBool _) h
  case gtr => exact Does.pure hI (by simp [binOp, Op.stringOp, bytes_toList]) (relV_mkBool _) h
  case geq => exact Does.pure hI (by simp [binOp, Op.stringOp, bytes_toList]) (relV_mkBool _) h

end Go.Aff

namespace Go.Aff

variable {g g' : G} {w w' : World} {σ σ' : AST} {P : Program}

theorem run_eq_bytes {t e : TypeId} (hu : P.underlying t = some (.array 32 e)) (he : P.underlying e = some (.int .u8)) (hc : P.cellsOf e = 1) (a b : List UInt8) (ha : a.length = 32) (hb : b.length = 32) (d : Nat) (w : World) :
    (Op.equalIn (d + 2) t (.agg (a.map fun b => Value.int .u8 b.toNat).toArray) (.agg (b.map fun b => Value.int .u8 b.toNat).toArray)).run P w = .ok (a == b) w := by
  have hag : aggT P e = some false := by simp [aggT, he]
  have hpart : ∀ (l : List UInt8) (i : Nat) (x : UInt8), l[i]? = some x → (part e (l.map fun b => Value.int .u8 b.toNat).toArray i).run P w = .ok (.int .u8 x.toNat) w := by
    intro l i x hx
    simp [part, run_isAgg' hag, hx]
  rw [Op.equalIn]
  simp only [Sem.run_bind, run_underlying hu, Result.andThen_ok, run_sizeOf' he, hc, Nat.mul_one]
  rw [Std.Legacy.Range.forIn_eq_forIn_range']
  have key : ∀ (n k : Nat), k + n = 32 →
      (forIn (List.range' k n 1) ((none : Option Bool), ()) fun i _ => do
        let x ← part e (a.map fun b => Value.int .u8 b.toNat).toArray i
        let y ← part e (b.map fun b => Value.int .u8 b.toNat).toArray i
        let r ← Op.equalIn (d + 1) e x y
        if (!r) = true then pure (ForInStep.done (some false, ())) else pure (ForInStep.yield (none, ())) : Sem (Option Bool × Unit)).run P w =
      .ok (if a.drop k == b.drop k then (none, ()) else (some false, ())) w := by
    intro n
    induction n with
    | zero =>
      intro k hk
      have h1 : a.drop k = [] := List.drop_of_length_le (by omega)
      have h2 : b.drop k = [] := List.drop_of_length_le (by omega)
      simp [h1, h2]
    | succ n ih =>
      intro k hk
      have hka : k < a.length := by omega
      have hkb : k < b.length := by omega
      have e1 : a.drop k = a[k] :: a.drop (k + 1) := List.drop_eq_getElem_cons hka
      have e2 : b.drop k = b[k] :: b.drop (k + 1) := List.drop_eq_getElem_cons hkb
      have hq : (Op.equalIn (d + 1) e (.int .u8 a[k].toNat) (.int .u8 b[k].toNat)).run P w = .ok (a[k] == b[k]) w := by
        rw [run_equalIn_int w d e .u8 .u8 _ _ he]
        congr 1
        rw [Bool.eq_iff_iff]
        simp only [beq_iff_eq]
        constructor
        · intro h; exact UInt8.toNat_inj.1 (by omega)
        · intro h; rw [h]
      simp only [List.range'_succ, List.forIn_cons, Sem.run_bind, hpart a k _ (List.getElem?_eq_getElem hka), hpart b k _ (List.getElem?_eq_getElem hkb), hq, Result.andThen_ok, Sem.run_ite, e1, e2]
      by_cases h : a[k] = b[k]
      · have := ih (k + 1) (by omega)
        simp only [h, beq_self_eq_true, Bool.not_true, Bool.false_eq_true, if_false, Sem.run_pure, Result.andThen_ok, List.cons_beq_cons, Bool.true_and]
        exact this
      · have h' : (a[k] == b[k]) = false := by simpa using h
        simp [h', h]
        intro hh
        rw [e1, e2] at hh
        simp only [List.cons.injEq] at hh
        exact h hh.1
  have := key 32 0 rfl
  simp only [List.drop_zero] at this
  have hr : ([:32] : Std.Legacy.Range).start = 0 ∧ ([:32] : Std.Legacy.Range).size = 32 ∧ ([:32] : Std.Legacy.Range).step = 1 := ⟨rfl, by simp [Std.Legacy.Range.size], rfl⟩
  rw [hr.1, hr.2.1, hr.2.2, this]
  simp only [Result.andThen_ok]
  by_cases h : a = b
  · subst h; simp
  · have h' : (a == b) = false := by simpa using h
    simp [h']

theorem run_eq_ints {t e : TypeId} {N : Nat} (hu : P.underlying t = some (.array N e)) (he : P.underlying e = some (.int .i64)) (hc : P.cellsOf e = 1) (a b : List Int) (ha : a.length = N) (hb : b.length = N) (d : Nat) (w : World) :
    (Op.equalIn (d + 2) t (.agg (a.map fun b => Value.int .i64 b).toArray) (.agg (b.map fun b => Value.int .i64 b).toArray)).run P w = .ok (a == b) w := by
  have hag : aggT P e = some false := by simp [aggT, he]
  have hpart : ∀ (l : List Int) (i : Nat) (x : Int), l[i]? = some x → (part e (l.map fun b => Value.int .i64 b).toArray i).run P w = .ok (.int .i64 x) w := by
    intro l i x hx
    simp [part, run_isAgg' hag, hx]
  rw [Op.equalIn]
  simp only [Sem.run_bind, run_underlying hu, Result.andThen_ok, run_sizeOf' he, hc, Nat.mul_one]
  rw [Std.Legacy.Range.forIn_eq_forIn_range']
  have key : ∀ (n k : Nat), k + n = N →
      (forIn (List.range' k n 1) ((none : Option Bool), ()) fun i _ => do
        let x ← part e (a.map fun b => Value.int .i64 b).toArray i
        let y ← part e (b.map fun b => Value.int .i64 b).toArray i
        let r ← Op.equalIn (d + 1) e x y
        if (!r) = true then pure (ForInStep.done (some false, ())) else pure (ForInStep.yield (none, ())) : Sem (Option Bool × Unit)).run P w =
      .ok (if a.drop k == b.drop k then (none, ()) else (some false, ())) w := by
    intro n
    induction n with
    | zero =>
      intro k hk
      have h1 : a.drop k = [] := List.drop_of_length_le (by omega)
      have h2 : b.drop k = [] := List.drop_of_length_le (by omega)
      simp [h1, h2]
    | succ n ih =>
      intro k hk
      have hka : k < a.length := by omega
      have hkb : k < b.length := by omega
      have e1 : a.drop k = a[k] :: a.drop (k + 1) := List.drop_eq_getElem_cons hka
      have e2 : b.drop k = b[k] :: b.drop (k + 1) := List.drop_eq_getElem_cons hkb
      have hq : (Op.equalIn (d + 1) e (.int .i64 a[k]) (.int .i64 b[k])).run P w = .ok (a[k] == b[k]) w := by
        exact run_equalIn_int w d e .i64 .i64 _ _ he
      simp only [List.range'_succ, List.forIn_cons, Sem.run_bind, hpart a k _ (List.getElem?_eq_getElem hka), hpart b k _ (List.getElem?_eq_getElem hkb), hq, Result.andThen_ok, Sem.run_ite, e1, e2]
      by_cases h : a[k] = b[k]
      · have := ih (k + 1) (by omega)
        simp only [h, beq_self_eq_true, Bool.not_true, Bool.false_eq_true, if_false, Sem.run_pure, Result.andThen_ok, List.cons_beq_cons, Bool.true_and]
        exact this
      · have h' : (a[k] == b[k]) = false := by simpa using h
        simp [h', h]
        intro hh
        rw [e1, e2] at hh
        simp only [List.cons.injEq] at hh
        exact h hh.1
  have := key N 0 (by omega)
  simp only [List.drop_zero] at this
  have hr : ([:N] : Std.Legacy.Range).start = 0 ∧ ([:N] : Std.Legacy.Range).size = N ∧ ([:N] : Std.Legacy.Range).step = 1 := ⟨rfl, by simp [Std.Legacy.Range.size], rfl⟩
  rw [hr.1, hr.2.1, hr.2.2, this]
  simp only [Result.andThen_ok]
  by_cases h : a = b
  · subst h; simp
  · have h' : (a == b) = false := by simpa using h
    simp [h']

theorem isU8_of {e : TypeId} (h : isU8 P e = true) : P.underlying e = some (.int .u8) := by
  unfold isU8 at h
  split at h
  · assumption
  · cases h

def isV (g : G) (w : World) (v : AV) (x : Value) : Prop := relC g w v x.cells.toList ∧ v.isAgg = vAgg x

theorem isV_of {v : AV} {x : Value} (h : relV g w v x) (hk : v.known = true) : isV g w v x := relV_known h hk

theorem bytes_beq (a b : List UInt8) : ((⟨a.toArray⟩ : ByteArray) == ⟨b.toArray⟩) = (a == b) := by
  rw [beq_toListBytes, bytes_toList, bytes_toList]

theorem isI64_of {e : TypeId} (h : isI64 P e = true) : P.underlying e = some (.int .i64) := by
  unfold isI64 at h
  split at h
  · assumption
  · cases h
theorem i64s_rel : ∀ {xs : List AV} {a : List Int} {cs : List Value}, i64s xs = some a → relPs g w xs cs → cs = a.map (fun b => Value.int .i64 b) ∧ a.length = xs.length
  | [], a, cs, h, hr => by simp [i64s] at h; subst h; simp only [relPs] at hr; subst hr; exact ⟨rfl, rfl⟩
  | x :: xs, a, cs, h, hr => by
    unfold i64s at h
    split at h
    · rename_i h0; cases h0
    · rename_i n r h0
      cases h0
      simp only [Option.map_eq_some_iff] at h
      obtain ⟨b, hb, rfl⟩ := h
      simp only [relPs] at hr
      obtain ⟨c1, c2, rfl, h1, h2⟩ := hr
      obtain ⟨rfl, hl⟩ := i64s_rel hb h2
      simp only [relC] at h1
      subst h1
      exact ⟨rfl, by simp [hl]⟩
    · cases h

mutual
theorem eqA_sound : ∀ (n : Nat) {t : TypeId} {x y : AV} {b : Bool} {X Y : Value}, eqA P n t x y = some b → isV g w x X → isV g w y Y → ∀ d, n ≤ d → ∀ W, (Op.equalIn d t X Y).run P W = .ok b W
  | 0, t, x, y, b, X, Y, h, hx, hy, d, hd, W => by simp [eqA] at h
  | n + 1, t, x, y, b, X, Y, h, hx, hy, d, hd, W => by
    obtain ⟨d, rfl⟩ : ∃ k, d = k + 1 := ⟨d - 1, by omega⟩
    simp only [eqA] at h
    have sc : ∀ {v : AV} {V : Value}, isV g w v V → v.isAgg = false → relC g w v [V] := by
      intro v V hv ha
      have := hv.2; rw [ha] at this
      have h0 := hv.1
      rw [cells_one this.symm] at h0; exact h0
    split at h
    · rename_i a b' hu
      simp only [Option.some.injEq] at h; subst h
      have h1 := sc hx rfl; have h2 := sc hy rfl
      simp only [relC, List.cons.injEq, and_true] at h1 h2; subst h1 h2
      exact run_equalIn_bool W d t a b' hu
    · rename_i kk k a k' b' hu
      split at h
      · rename_i hk; subst hk
        simp only [Option.some.injEq] at h; subst h
        have h1 := sc hx rfl; have h2 := sc hy rfl
        simp only [relC, List.cons.injEq, and_true] at h1 h2; subst h1 h2
        exact run_equalIn_int W d t k kk a b' hu
      · cases h
    · rename_i a b' hu
      simp only [Option.some.injEq] at h; subst h
      have h1 := sc hx rfl; have h2 := sc hy rfl
      simp only [relC, List.cons.injEq, and_true] at h1 h2
      obtain ⟨rfl, _⟩ := h1; obtain ⟨rfl, _⟩ := h2
      simp [Op.equalIn, run_underlying hu, bytes_beq]
    · rename_i e a b' hu
      split at h
      · rename_i he
        simp only [Option.some.injEq] at h; subst h
        obtain ⟨h1, h1'⟩ := hx; obtain ⟨h2, h2'⟩ := hy
        obtain ⟨cx, rfl⟩ := cells_agg h1'.symm
        obtain ⟨cy, rfl⟩ := cells_agg h2'.symm
        simp only [relC, Value.cells] at h1 h2
        obtain ⟨d, rfl⟩ : ∃ k, d = k + 1 := ⟨d - 1, by omega⟩
        have e1 : cx = (a.l.map fun b => Value.int .u8 b.toNat).toArray := by rw [← h1]
        have e2 : cy = (b'.l.map fun b => Value.int .u8 b.toNat).toArray := by rw [← h2]
        rw [e1, e2]
        exact run_eq_bytes hu (isU8_of he.1) he.2.1 a.l b'.l a.h b'.h d W
      · cases h
    · rename_i N e xs ys hu
      split at h
      · rename_i he
        obtain ⟨he1, he2, he3, he4, he5⟩ := he
        unfold eqI at h
        split at h
        · rename_i a b' ha hb
          simp only [Option.some.injEq] at h; subst h
          obtain ⟨h1, h1'⟩ := hx; obtain ⟨h2, h2'⟩ := hy
          obtain ⟨cx, rfl⟩ := cells_agg h1'.symm
          obtain ⟨cy, rfl⟩ := cells_agg h2'.symm
          simp only [relC, Value.cells] at h1 h2
          obtain ⟨d, rfl⟩ : ∃ k, d = k + 1 := ⟨d - 1, by omega⟩
          obtain ⟨k1, k2⟩ := i64s_rel ha h1
          obtain ⟨k3, k4⟩ := i64s_rel hb h2
          have e1 : cx = (a.map fun b => Value.int .i64 b).toArray := by rw [← k1]
          have e2 : cy = (b'.map fun b => Value.int .i64 b).toArray := by rw [← k3]
          rw [e1, e2]
          exact run_eq_ints hu (isI64_of he1) he2 a b' (by omega) (by omega) d W
        · cases h
      · cases h
    · rename_i fs xs ys hu
      split at h
      · rename_i hst
        obtain ⟨h1, h1'⟩ := hx; obtain ⟨h2, h2'⟩ := hy
        obtain ⟨cx, rfl⟩ := cells_agg h1'.symm
        obtain ⟨cy, rfl⟩ := cells_agg h2'.symm
        simp only [relC, Value.cells] at h1 h2
        have hf : P.fieldsOf t = fs := by simp [Program.fieldsOf, hu]
        rw [run_equalIn_struct W d t cx cy (by rw [hf]; exact hu) hst, hf]
        exact eqAs_sound n h h1 h2 (by simp) (by simp) d (by omega) W
      · cases h
    · rename_i q b' hu
      simp only [Option.some.injEq] at h; subst h
      have h1 := sc hx rfl; have h2 := sc hy rfl
      simp only [relC, List.cons.injEq, and_true] at h1; subst h1
      cases b' with
      | none => simp only [relC, List.cons.injEq, and_true] at h2; subst h2; simp [Op.equalIn, run_underlying hu]
      | some z => obtain ⟨i, p⟩ := z; simp only [relC, List.cons.injEq, and_true] at h2; obtain ⟨_, _, _, _, _, rfl⟩ := h2; simp [Op.equalIn, run_underlying hu]
    · rename_i q a hne hu
      simp only [Option.some.injEq] at h; subst h
      have h1 := sc hx rfl; have h2 := sc hy rfl
      simp only [relC, List.cons.injEq, and_true] at h2; subst h2
      cases a with
      | none => simp only [relC, List.cons.injEq, and_true] at h1; subst h1; simp [Op.equalIn, run_underlying hu]
      | some z => obtain ⟨i, p⟩ := z; simp only [relC, List.cons.injEq, and_true] at h1; obtain ⟨_, _, _, _, _, rfl⟩ := h1; simp [Op.equalIn, run_underlying hu]
    · cases h
theorem eqAs_sound : ∀ (n : Nat) {t : TypeId} {i : Nat} {fs : List Field} {xs ys ax ay : List AV} {b : Bool} {cx cy : Array Value}, eqAs P n t i fs xs ys ax ay = some b →
    relPs g w ax cx.toList → relPs g w ay cy.toList → xs = ax.drop i → ys = ay.drop i → ∀ d, n ≤ d → ∀ W, (Op.eqFields d cx cy fs).run P W = .ok b W
  | 0, t, i, fs, xs, ys, ax, ay, b, cx, cy, h, hx, hy, ex, ey, d, hd, W => by simp [eqAs] at h
  | n + 1, t, i, [], xs, ys, ax, ay, b, cx, cy, h, hx, hy, ex, ey, d, hd, W => by simp [eqAs] at h; subst h; simp [Op.eqFields]
  | n + 1, t, i, f :: fs, [], ys, ax, ay, b, cx, cy, h, hx, hy, ex, ey, d, hd, W => by simp [eqAs] at h
  | n + 1, t, i, f :: fs, x :: xs, [], ax, ay, b, cx, cy, h, hx, hy, ex, ey, d, hd, W => by simp [eqAs] at h
  | n + 1, t, i, f :: fs, x :: xs, y :: ys, ax, ay, b, cx, cy, h, hx, hy, ex, ey, d, hd, W => by
    simp only [eqAs] at h
    split at h
    · rename_i hc
      obtain ⟨hnm, ho1, ho2, ha1, hs1, ha2, hs2⟩ := hc
      have hxi : ax[i]? = some x := by
        have : (ax.drop i)[0]? = some x := by rw [← ex]; rfl
        simpa using this
      have hyi : ay[i]? = some y := by
        have : (ay.drop i)[0]? = some y := by rw [← ey]; rfl
        simpa using this
      have ex' : xs = ax.drop (i + 1) := by
        have h0 : (ax.drop i).drop 1 = xs := by rw [← ex]; rfl
        rw [← h0, List.drop_drop]
      have ey' : ys = ay.drop (i + 1) := by
        have h0 : (ay.drop i).drop 1 = ys := by rw [← ey]; rfl
        rw [← h0, List.drop_drop]
      -- the parts
      have part_ : ∀ {ps : List AV} {cs : Array Value} {v : AV}, relPs g w ps cs.toList → ps[i]? = some v → f.offset = AV.sizes (ps.take i) → aggT P f.type = some v.isAgg → P.cellsOf f.type = v.size →
          ∃ z, (∀ W, (part f.type cs f.offset).run P W = .ok z W) ∧ isV g w v z := by
        intro ps cs v hr hv ho ha hs
        obtain ⟨cv, hcv, hcell, hle⟩ := relPs_nth hr hv
        obtain ⟨dd, hd⟩ := agg_under ha
        have hlen := relC_size hcv
        cases hg : v.isAgg with
        | true =>
          rw [hg] at ha
          refine ⟨.agg cv.toArray, fun W => ?_, by simpa [Value.cells] using hcv, hg⟩
          have e : cs.extract f.offset (f.offset + P.cellsOf f.type) = cv.toArray := by
            apply Array.ext_getElem?
            intro j
            rw [Array.getElem?_extract]
            simp only [Array.length_toList] at hle
            rw [hs, ← hlen, ho]
            split
            · rename_i hj
              have h1 := hcell j (by omega)
              simp at h1; rw [h1]; simp
            · rename_i hj
              have hj' : cv.length ≤ j := by omega
              simp [List.getElem?_eq_none hj']
          simp [part, run_isAgg' ha, run_sizeOf' hd, e]
        | false =>
          rw [hg] at ha
          obtain ⟨q, rfl⟩ := relC_scalar hcv hg
          have h1 := relC_cell1 hcv q (by simp)
          have h0 := hcell 0 (by simp)
          simp at h0
          refine ⟨q, fun W => ?_, ?_, ?_⟩
          · simp [part, run_isAgg' ha, ho, h0]
          · rw [cells_one (vAgg_one h1)]; exact hcv
          · rw [hg, vAgg_one h1]
      obtain ⟨X, hX, hvX⟩ := part_ hx hxi ho1 ha1 hs1
      obtain ⟨Y, hY, hvY⟩ := part_ hy hyi ho2 ha2 hs2
      simp only [Op.eqFields, hnm, if_true, Sem.run_bind, hX, hY, Result.andThen_ok, Sem.run_ite]
      rw [if_pos hnm]
      split at h
      · rename_i heq
        simp only [Sem.run_bind, hX, hY, Result.andThen_ok, eqA_sound n heq hvX hvY d (by omega) W, Bool.not_true, Bool.false_eq_true, if_false, Sem.run_ite]
        exact eqAs_sound n h hx hy ex' ey' d (by omega) W
      · rename_i heq
        simp only [Option.some.injEq] at h; subst h
        simp only [Sem.run_bind, hX, hY, Result.andThen_ok, eqA_sound n heq hvX hvY d (by omega) W, Bool.not_false, if_true, Sem.run_pure, Sem.run_ite]
      · cases h
    · cases h
end

end Go.Aff

namespace Go.Aff
variable {g : G} {w : World} {σ : AST}

theorem heap_mark {b n : Nat} {c : Array Value} {e : TypeId} {fr : Nat × Nat} (hc : w.heap[b]? = some (.cells c e fr)) :
    (w.freeze ⟨b, n, none⟩ 1).heap[b]? = some (.cells c e (if fr.1 == fr.2 then (n, n + 1) else (min fr.1 n, max fr.2 (n + 1)))) := by
  unfold World.freeze
  rw [if_neg (by decide)]
  simp only [Array.getElem?_modify, if_true, hc, Option.map_some]
theorem heap_mark_ne {b n k : Nat} (h : k ≠ b) : (w.freeze ⟨b, n, none⟩ 1).heap[k]? = w.heap[k]? := by
  unfold World.freeze
  rw [if_neg (by decide)]
  simp only [Array.getElem?_modify]
  rw [if_neg (fun e => h e.symm)]
theorem inv_mark {b L : Nat} {c : Array Value} {e : TypeId} {fr : Nat × Nat} (hI : Inv g σ w) (hb : g.base ≤ b) (hlim : g.lim b = some L) (hc : w.heap[b]? = some (.cells c e fr)) :
    Ev g w g (w.freeze ⟨b, c.size, none⟩ 1) ∧ Inv g σ (w.freeze ⟨b, c.size, none⟩ 1) := by
  have hsz : (w.freeze ⟨b, c.size, none⟩ 1).heap.size = w.heap.size := by
    unfold World.freeze; rw [if_neg (by decide)]; simp
  have hE : Ev g w g (w.freeze ⟨b, c.size, none⟩ 1) := by
    refine ⟨by unfold World.freeze; rfl, by unfold World.freeze; rfl, by unfold World.freeze; rfl, by omega, rfl, fun k hk => heap_mark_ne (by omega), fun _ _ h => h, fun k M hM => ⟨⟨M, hM, Nat.le_refl _⟩, fun c' e' fr' hc' => ?_⟩, fun t e h => ⟨e, h, rfl, Nat.le_refl _, fun _ => rfl, .inl rfl⟩⟩
    by_cases hk : k = b
    · subst hk; rw [hc] at hc'; cases hc'
      exact ⟨_, _, _, heap_mark hc, fun _ _ => rfl⟩
    · exact ⟨c', e', fr', by rw [heap_mark_ne hk]; exact hc', fun _ _ => rfl⟩
  refine ⟨hE, by rw [hsz]; exact hI.base, hI.nobj, ?_, hI.inj, ?_, hI.ntok, ?_, hI.tinj⟩
  · intro i o ho hl
    obtain ⟨b', sh, h1, h2, h3, h4⟩ := hI.obj i o ho hl
    have hne : b' ≠ b := fun h => by rw [h, hlim] at h3; cases h3
    refine ⟨b', sh, h1, h2, h3, ?_⟩
    cases o with
    | gone => trivial
    | pin l o vs xs => exact ⟨h4.1, by rw [heap_mark_ne hne]; exact h4.2.1, fun i v x h1 h2 => (h4.2.2 i v x h1 h2).imp id fun ⟨a, b⟩ => ⟨relC_mono hE a, b⟩⟩
    | cells v =>
      obtain ⟨c', e', fr', hc', hf', hr, hs⟩ := h4
      exact ⟨c', e', fr', by rw [heap_mark_ne hne]; exact hc', hf', relC_mono hE hr, hs⟩
    | map es ck =>
      obtain ⟨me, hm, hl', hes, hbn, hinj⟩ := h4
      exact ⟨me, by rw [heap_mark_ne hne]; exact hm, hl', fun i e m hk hmm => by
        obtain ⟨a0, a1, a2⟩ := hes i e m hk hmm
        exact ⟨a0, ⟨relC_mono hE a1.1, a1.2⟩, ⟨relC_mono hE a2.1, a2.2⟩⟩, hbn, hinj⟩
  · intro k M hM
    obtain ⟨h1, c', e', fr', hc', h2⟩ := hI.rows k M hM
    by_cases hk : k = b
    · subst hk; rw [hc] at hc'; cases hc'
      refine ⟨h1, _, _, _, heap_mark hc, h2.1, ?_⟩
      split
      · right; simp
      · rename_i hne
        simp at hne
        right; dsimp only; omega
    · exact ⟨h1, c', e', fr', by rw [heap_mark_ne hk]; exact hc', h2⟩
  · intro t e' ht
    obtain ⟨h1, h2, h3, h4, h5⟩ := hI.tok t e' ht
    refine ⟨h1, h2, h3, h4, fun b' o ha hlt => ?_⟩
    obtain ⟨h6, c', el, fr', hc', h7, h8⟩ := h5 b' o ha hlt
    refine ⟨h6, ?_⟩
    by_cases hk : b' = b
    · subst hk; rw [hc] at hc'; cases hc'
      refine ⟨_, _, _, heap_mark hc, h7, ?_⟩
      split
      · right; simp
      · rename_i hne
        simp at hne
        right; dsimp only; omega
    · exact ⟨c', el, fr', by rw [heap_mark_ne hk]; exact hc', h7, h8⟩
end Go.Aff

