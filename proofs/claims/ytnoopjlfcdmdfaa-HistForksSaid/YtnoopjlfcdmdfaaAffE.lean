/- What operations do, soundly (1): loads, stores, places, parts. -/
import Derived.Test.YtnoopjlfcdmdfaaAffD
import Derived.Laws.Slices
namespace Go.Aff
set_option linter.unusedVariables false
set_option linter.unusedSimpArgs false

variable {g g' : G} {w w' : World} {σ σ' : AST} {P : Program}

/-- A computation of a value comes to what K lets. -/
def Does (P : Program) (g : G) (w : World) (s : Sem Value) (K : AV → AST → Prop) : Prop :=
  ∃ x w' g' v σ', s.run P w = .ok x w' ∧ Ev g w g' w' ∧ Inv g' σ' w' ∧ relV g' w' v x ∧ K v σ'

def DoesU (P : Program) (g : G) (w : World) (s : Sem Unit) (K : AST → Prop) : Prop :=
  ∃ w' g' σ', s.run P w = .ok () w' ∧ Ev g w g' w' ∧ Inv g' σ' w' ∧ K σ'

theorem Does.pure {s : Sem Value} {K : AV → AST → Prop} {x : Value} {v : AV} (hI : Inv g σ w) (h : s.run P w = .ok x w) (hr : relV g w v x) (hk : K v σ) : Does P g w s K :=
  ⟨x, w, g, v, σ, h, Ev.refl _ _, hI, hr, hk⟩

theorem obj_cells (hI : Inv g σ w) {i : Nat} {v : AV} (h : σ.objs[i]? = some (.cells v)) {b : Nat} {sh : Shape} (hg : g.objs[i]? = some (b, sh)) :
    g.base ≤ b ∧ g.lim b = none ∧ ∃ c e, w.heap[b]? = some (.cells c e) ∧ relC g w v c.toList ∧ v.shape = sh := by
  obtain ⟨b1, sh1, h1, hb, hl, hin⟩ := hI.obj i _ h rfl
  rw [hg] at h1; cases h1
  exact ⟨hb, hl, hin⟩

theorem load_does (hI : Inv g σ w) {t : TypeId} {a : AV} {x : Value} {K : AV → AST → Prop} (ha : relV g w a x) (h : loadW P σ t a (fun v => K v σ)) :
    Does P g w (Instr.loadAt t x) K := by
  unfold loadW at h
  split at h
  · rename_i i p
    split at h
    · rename_i v hobj
      split at h
      · rename_i u hat
        obtain ⟨b, sh, o, hg, ho, rfl⟩ := relV_ptr ha
        obtain ⟨_, _, c, e, hc, hr, hs⟩ := obj_cells hI hobj hg
        obtain ⟨cu, hcu, hcell, _⟩ := at_rel hr hat (hs ▸ ho)
        have hrd : rd w b o cu := ⟨c, e, (0, 0), hc, fun j hj => by rw [← hcell j hj]; simp⟩
        obtain ⟨y, hy, hv⟩ := run_loadVar' h.1 hcu hrd
        exact Does.pure hI (by simp [Instr.loadAt, Instr.sureAddr, hy]) hv h.2
      · exact h.elim
    · exact h.elim
  · rename_i v
    obtain ⟨b, o, cv, rfl, hv, hr, _⟩ := relV_eptr ha
    obtain ⟨y, hy, hv'⟩ := run_loadVar' h.1 hv hr
    exact Does.pure hI (by simp [Instr.loadAt, Instr.sureAddr, hy]) hv' h.2
  · exact h.elim

/-! ### Stores -/

def splice (cs : List Value) (o : Nat) (cx : List Value) : List Value := cs.take o ++ cx ++ cs.drop (o + cx.length)

theorem splice_get {cs cx : List Value} {o : Nat} (h : o + cx.length ≤ cs.length) (j : Nat) :
    (splice cs o cx)[j]? = if o ≤ j ∧ j < o + cx.length then cx[j - o]? else cs[j]? := by
  unfold splice
  rw [List.append_assoc, List.getElem?_append]
  have h1 : (cs.take o).length = o := by rw [List.length_take]; omega
  rw [h1]
  split
  · rw [if_neg (by omega), List.getElem?_take, if_pos (by omega)]
  · rw [List.getElem?_append]
    split
    · rw [if_pos (by omega)]
    · rw [if_neg (by omega), List.getElem?_drop]; congr 1; omega

theorem splice_length {cs cx : List Value} {o : Nat} (h : o + cx.length ≤ cs.length) : (splice cs o cx).length = cs.length := by
  simp [splice]; omega

theorem relPs_set : ∀ {ps : List AV} {cs : List Value} {i : Nat} {u x : AV} {cx : List Value}, relPs g w ps cs → ps[i]? = some u → relC g w x cx → x.size = u.size →
    relPs g w (ps.set i x) (splice cs (AV.sizes (ps.take i)) cx)
  | [], cs, i, u, x, cx, h, hi, _, _ => by simp at hi
  | p :: ps, cs, 0, u, x, cx, h, hi, hx, hs => by
    simp only [relPs] at h; obtain ⟨c1, c2, rfl, h1, h2⟩ := h
    simp at hi; subst hi
    simp only [List.set_cons_zero, relPs, List.take_zero, AV.sizes, splice, List.nil_append]
    refine ⟨cx, c2, ?_, hx, h2⟩
    have : cx.length = c1.length := by rw [relC_size hx, relC_size h1, hs]
    simp [this]
  | p :: ps, cs, i + 1, u, x, cx, h, hi, hx, hs => by
    simp only [relPs] at h; obtain ⟨c1, c2, rfl, h1, h2⟩ := h
    simp at hi
    have ih := relPs_set h2 hi hx hs
    simp only [List.set_cons_succ, relPs, List.take_succ_cons, AV.sizes, ← relC_size h1]
    refine ⟨c1, _, ?_, h1, ih⟩
    simp only [splice, List.take_append, List.drop_append]
    have e1 : c1.take (c1.length + AV.sizes (ps.take i)) = c1 := List.take_of_length_le (by omega)
    have e2 : c1.drop (c1.length + AV.sizes (ps.take i) + cx.length) = [] := List.drop_of_length_le (by omega)
    have e3 : c1.length + AV.sizes (ps.take i) - c1.length = AV.sizes (ps.take i) := by omega
    have e4 : c1.length + AV.sizes (ps.take i) + cx.length - c1.length = AV.sizes (ps.take i) + cx.length := by omega
    rw [e1, e2, e3, e4]; simp

theorem u8_toNat {n : Int} (h0 : 0 ≤ n) (h1 : n < 256) : (((UInt8.ofNat n.toNat).toNat : Nat) : Int) = n := by
  have : n.toNat < 256 := by omega
  simp [UInt8.toNat_ofNat', Nat.mod_eq_of_lt this]; omega

theorem setAt_shape : ∀ {p : List Nat} {v u x : AV}, v.at p = some u → x.shape = u.shape → setOk v p x → (v.setAt p x).shape = v.shape
  | [], v, u, x, hu, hs, _ => by
    have h1 : v = u := by rw [at_nil] at hu; exact Option.some.inj hu
    subst h1; simpa [AV.setAt] using hs
  | i :: p, .agg ps, u, x, hu, hs, hk => by
    simp only [AV.at, Option.bind_eq_some_iff] at hu
    obtain ⟨y, hy, hu⟩ := hu
    simp only [setOk] at hk
    have ih := setAt_shape hu hs (hk y hy)
    simp only [AV.setAt, hy, AV.shape, AV.shapes_eq_map, List.map_set, ih]
    congr 1
    apply List.ext_getElem?
    intro j
    rw [List.getElem?_set]
    split
    · rename_i e; subst e
      split
      · rw [List.getElem?_map, hy]; rfl
      · rename_i hlt; rw [List.getElem?_map, hy] ; simp at hlt; have := (List.getElem?_eq_some_iff.1 hy).1; omega
    · rfl
  | [i], .dig d, u, .int k n, hu, hs, hk => by
    simp only [setOk] at hk; obtain ⟨rfl, _, _⟩ := hk
    simp [AV.setAt, AV.shape]
  | [i], .dig d, u, .undef, hu, hs, hk | [i], .dig d, u, .bool _, hu, hs, hk | [i], .dig d, u, .str _, hu, hs, hk | [i], .dig d, u, .ptr _, hu, hs, hk | [i], .dig d, u, .slice _ _, hu, hs, hk
  | [i], .dig d, u, .eptr _, hu, hs, hk | [i], .dig d, u, .mp _, hu, hs, hk | [i], .dig d, u, .fn _ _ _, hu, hs, hk | [i], .dig d, u, .nilFn, hu, hs, hk | [i], .dig d, u, .agg _, hu, hs, hk
  | [i], .dig d, u, .dig _, hu, hs, hk | [i], .dig d, u, .tuple _, hu, hs, hk | [i], .dig d, u, .iface _ _, hu, hs, hk | [i], .dig d, u, .nilIface, hu, hs, hk => by simp [setOk] at hk
  | i :: j :: p, .dig d, u, x, hu, hs, hk => by simp [AV.at] at hu
  | i :: p, .undef, u, _, h, _, _ | i :: p, .bool _, u, _, h, _, _ | i :: p, .int _ _, u, _, h, _, _ | i :: p, .str _, u, _, h, _, _ | i :: p, .ptr _, u, _, h, _, _ | i :: p, .slice _ _, u, _, h, _, _ | i :: p, .eptr _, u, _, h, _, _
  | i :: p, .mp _, u, _, h, _, _ | i :: p, .fn _ _ _, u, _, h, _, _ | i :: p, .nilFn, u, _, h, _, _ | i :: p, .tuple _, u, _, h, _, _ | i :: p, .iface _ _, u, _, h, _, _ | i :: p, .nilIface, u, _, h, _, _ => by simp [AV.at] at h

theorem shape_size {x u : AV} (h : x.shape = u.shape) : x.size = u.size := by rw [← AV.size_shape, ← AV.size_shape, h]

theorem setAt_rel : ∀ {p : List Nat} {v u x : AV} {cs cx : List Value} {o : Nat}, relC g w v cs → v.at p = some u → v.shape.off p = some o → relC g w x cx → x.shape = u.shape → setOk v p x →
    relC g w (v.setAt p x) (splice cs o cx)
  | [], v, u, x, cs, cx, o, h, hu, ho, hx, hs, _ => by
    have h1 : v = u := by rw [at_nil] at hu; exact Option.some.inj hu
    have h2 : o = 0 := by cases v <;> simp_all [AV.shape, Shape.off]
    subst h1 h2
    have e : cx.length = cs.length := by rw [relC_size hx, relC_size h, shape_size hs]
    have : splice cs 0 cx = cx := by simp [splice, e]
    rw [this]; cases v <;> simpa [AV.setAt] using hx
  | i :: p, .agg ps, u, x, cs, cx, o, h, hu, ho, hx, hs, hk => by
    simp only [AV.at, Option.bind_eq_some_iff] at hu
    obtain ⟨y, hy, hu⟩ := hu
    simp only [AV.shape, Shape.off, shapes_get, hy, Option.map_some, Option.bind_some, Option.map_eq_some_iff, sizes_take] at ho
    obtain ⟨o', ho', rfl⟩ := ho
    simp only [relC] at h
    simp only [setOk] at hk
    obtain ⟨cy, hcy, hc, hl⟩ := relPs_nth h hy
    have ih := setAt_rel hcy hu ho' hx hs (hk y hy)
    obtain ⟨cu, hcu, hcell, hle⟩ := at_rel hcy hu ho'
    have hxl : cx.length = cu.length := by rw [relC_size hx, relC_size hcu, shape_size hs]
    have hsz : (y.setAt p x).size = y.size := shape_size (setAt_shape hu hs (hk y hy))
    have := relPs_set h hy ih hsz
    simp only [AV.setAt, hy, relC]
    have e : splice cs (AV.sizes (ps.take i)) (splice cy o' cx) = splice cs (AV.sizes (ps.take i) + o') cx := by
      apply List.ext_getElem?
      intro j
      have hsl : (splice cy o' cx).length = cy.length := splice_length (by omega)
      have hR := splice_get (cs := cs) (cx := cx) (o := AV.sizes (ps.take i) + o') (by omega) j
      rw [hR, splice_get (by omega), hsl]
      split
      · rw [splice_get (by omega)]
        split
        · rw [if_pos (by omega)]; congr 1; omega
        · rw [if_neg (by omega), ← hc (j - AV.sizes (ps.take i)) (by omega)]; congr 1; omega
      · rw [if_neg (by omega)]
    rw [← e]; exact this
  | [i], .dig d, u, .int k n, cs, cx, o, h, hu, ho, hx, hs, hk => by
    simp only [setOk] at hk; obtain ⟨rfl, h0, h1⟩ := hk
    simp only [AV.at, Option.map_eq_some_iff] at hu
    obtain ⟨b, hb, rfl⟩ := hu
    have hi : i < 32 := by have := (List.getElem?_eq_some_iff.1 hb).1; rw [d.h] at this; exact this
    simp [AV.shape, Shape.off, hi] at ho
    subst ho
    simp only [relC] at h hx; subst h hx
    simp only [AV.setAt, relC, Dig.set]
    have hd := d.h
    apply List.ext_getElem?
    intro j
    rw [splice_get (by simp; omega)]
    simp only [List.length_singleton, List.getElem?_map, List.getElem?_set]
    by_cases e : i = j
    · subst e
      rw [if_pos (by omega), if_pos rfl, if_pos (by omega)]
      simp only [Nat.sub_self, List.getElem?_cons_zero, Option.map_some, u8_toNat h0 h1]
    · rw [if_neg (by omega), if_neg e]
  | [i], .dig d, u, .undef, _, _, _, _, hu, _, _, hs, hk | [i], .dig d, u, .bool _, _, _, _, _, hu, _, _, hs, hk | [i], .dig d, u, .str _, _, _, _, _, hu, _, _, hs, hk | [i], .dig d, u, .ptr _, _, _, _, _, hu, _, _, hs, hk | [i], .dig d, u, .slice _ _, _, _, _, _, hu, _, _, hs, hk
  | [i], .dig d, u, .eptr _, _, _, _, _, hu, _, _, hs, hk | [i], .dig d, u, .mp _, _, _, _, _, hu, _, _, hs, hk | [i], .dig d, u, .fn _ _ _, _, _, _, _, hu, _, _, hs, hk | [i], .dig d, u, .nilFn, _, _, _, _, hu, _, _, hs, hk | [i], .dig d, u, .agg _, _, _, _, _, hu, _, _, hs, hk
  | [i], .dig d, u, .dig _, _, _, _, _, hu, _, _, hs, hk | [i], .dig d, u, .tuple _, _, _, _, _, hu, _, _, hs, hk | [i], .dig d, u, .iface _ _, _, _, _, _, hu, _, _, hs, hk | [i], .dig d, u, .nilIface, _, _, _, _, hu, _, _, hs, hk => by simp [setOk] at hk
  | i :: j :: p, .dig d, u, x, _, _, _, _, hu, _, _, hs, hk => by simp [AV.at] at hu
  | i :: p, .undef, u, _, _, _, _, _, h, _, _, _, _ | i :: p, .bool _, u, _, _, _, _, _, h, _, _, _, _ | i :: p, .int _ _, u, _, _, _, _, _, h, _, _, _, _ | i :: p, .str _, u, _, _, _, _, _, h, _, _, _, _ | i :: p, .ptr _, u, _, _, _, _, _, h, _, _, _, _ | i :: p, .slice _ _, u, _, _, _, _, _, h, _, _, _, _ | i :: p, .eptr _, u, _, _, _, _, _, h, _, _, _, _
  | i :: p, .mp _, u, _, _, _, _, _, h, _, _, _, _ | i :: p, .fn _ _ _, u, _, _, _, _, _, h, _, _, _, _ | i :: p, .nilFn, u, _, _, _, _, _, h, _, _, _, _ | i :: p, .tuple _, u, _, _, _, _, _, h, _, _, _, _ | i :: p, .iface _ _, u, _, _, _, _, _, h, _, _, _, _ | i :: p, .nilIface, u, _, _, _, _, _, h, _, _, _, _ => by simp [AV.at] at h

theorem setRow_eq_setBlk {b : Nat} {c : Array Value} {e : TypeId} {fr : Nat × Nat} (c' : Array Value) (h : w.heap[b]? = some (.cells c e fr)) : w.setRow b c' = setBlk w b (.cells c' e fr) := by
  obtain ⟨hb, hx⟩ := Array.getElem?_eq_some_iff.1 h
  unfold World.setRow setBlk
  congr 1
  apply Array.ext_getElem?
  intro j
  simp only [Array.getElem?_modify, Array.getElem?_setIfInBounds]
  split
  · rename_i e'; subst e'; rw [h]; rfl
  · rfl

end Go.Aff
