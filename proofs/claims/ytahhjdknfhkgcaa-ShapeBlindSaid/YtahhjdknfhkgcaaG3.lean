import Derived.Test.YtahhjdknfhkgcaaG2
import Derived.Laws.IdiomCopy

set_option linter.unusedSimpArgs false
set_option linter.unusedVariables false

namespace Go.Aff

variable {g g' : G} {w w' : World} {σ σ' : AST} {P : Program}

theorem bin_does (hI : Inv g σ w) {op : BinOp} {t : TypeId} {x y : AV} {X Y : Value} {ox oy : Operand} {K : AV → AST → Prop} (hx : relV g w x X) (hy : relV g w y Y) (h : binW P op t x y (fun v => K v σ)) :
    Does P g w (do eqGuard op t ox oy X Y; binOp op t X Y) K := by
  unfold binW at h
  split at h
  · rename_i k a k' b
    obtain ⟨rfl, h⟩ := h
    obtain rfl := relV_int hx
    obtain rfl := relV_int hy
    obtain ⟨z, w1, g1, v, σ1, h1, h2⟩ := int_does hI (t := t) h
    refine ⟨z, w1, g1, v, σ1, ?_, h2⟩
    rw [Sem.run_bind]
    have : (eqGuard op t ox oy (.int k a) (.int k b)).run P w = .ok () w := by cases op <;> simp [eqGuard]
    rw [this]; exact h1
  · rename_i a b
    obtain ⟨rfl, _⟩ := relV_str hx
    obtain ⟨rfl, _⟩ := relV_str hy
    obtain ⟨z, w1, g1, v, σ1, h1, h2⟩ := str_does hI (t := t) h
    refine ⟨z, w1, g1, v, σ1, ?_, h2⟩
    rw [Sem.run_bind]
    have : (eqGuard op t ox oy (.string ⟨a.toArray⟩) (.string ⟨b.toArray⟩)).run P w = .ok () w := by cases op <;> simp [eqGuard]
    rw [this]; exact h1
  · rename_i a b
    obtain rfl := relV_bool hx
    obtain rfl := relV_bool hy
    have eqrun : ∀ r, eqA P 40 t (.bool a) (.bool b) = some r → (Op.equal t (.bool a) (.bool b)).run P w = .ok r w := fun r hr => eqA_sound 40 hr (isV_of hx rfl) (isV_of hy rfl) Op.maxDepth (by decide) w
    unfold eqW at h
    split at h
    · obtain ⟨r, hr, hK⟩ := h
      exact Does.pure hI (by simp [eqGuard, binOp, eqrun r hr]) (relV_mkBool _) hK
    · obtain ⟨r, hr, hK⟩ := h
      exact Does.pure hI (by simp [eqGuard, binOp, eqrun r hr]) (relV_mkBool _) hK
    · exact h.elim
  · rename_i a b
    have form : ∀ {a : Option (Nat × List Nat)} {X : Value}, relV g w (.ptr a) X → ∃ p, X = .pointer p := by
      intro a X hX
      cases a with
      | none => exact ⟨_, relV_nilptr hX⟩
      | some q => obtain ⟨i, p⟩ := q; obtain ⟨_, _, _, _, _, rfl⟩ := relV_ptr hX; exact ⟨_, rfl⟩
    obtain ⟨p, rfl⟩ := form hx
    obtain ⟨q, rfl⟩ := form hy
    have eqrun : ∀ r, eqA P 40 t (.ptr a) (.ptr b) = some r → (Op.equal t (.pointer p) (.pointer q)).run P w = .ok r w := fun r hr => eqA_sound 40 hr (isV_of hx rfl) (isV_of hy rfl) Op.maxDepth (by decide) w
    unfold eqW at h
    split at h
    · obtain ⟨r, hr, hK⟩ := h
      exact Does.pure hI (by simp [eqGuard, binOp, eqrun r hr]) (relV_mkBool _) hK
    · obtain ⟨r, hr, hK⟩ := h
      exact Does.pure hI (by simp [eqGuard, binOp, eqrun r hr]) (relV_mkBool _) hK
    · exact h.elim
  · rename_i a b
    obtain ⟨hg, h⟩ := h
    obtain ⟨cx, rfl, _⟩ := relV_agg hx rfl
    obtain ⟨cy, rfl, _⟩ := relV_agg hy rfl
    have eqrun : ∀ r, eqA P 40 t (.agg a) (.agg b) = some r → (Op.equalIn 10000 t (.agg cx) (.agg cy)).run P w = .ok r w := fun r hr => eqA_sound 40 hr (isV_of hx rfl) (isV_of hy rfl) 10000 (by decide) w
    unfold eqW at h
    split at h
    · obtain ⟨r, hr, hK⟩ := h
      exact Does.pure hI (by simp only [Sem.run_bind, run_eqGuard_agg w _ t ox oy cx cy hg, Result.andThen_ok, run_eql_struct, eqrun r hr]) (relV_mkBool _) hK
    · obtain ⟨r, hr, hK⟩ := h
      exact Does.pure hI (by simp only [Sem.run_bind, run_eqGuard_agg w _ t ox oy cx cy hg, Result.andThen_ok, run_neq_struct, eqrun r hr]) (relV_mkBool _) hK
    · exact h.elim
  · rename_i a b
    obtain ⟨hg, h⟩ := h
    obtain ⟨cx, rfl, _⟩ := relV_agg hx rfl
    obtain ⟨cy, rfl, _⟩ := relV_agg hy rfl
    have eqrun : ∀ r, eqA P 40 t (.dig a) (.dig b) = some r → (Op.equalIn 10000 t (.agg cx) (.agg cy)).run P w = .ok r w := fun r hr => eqA_sound 40 hr (isV_of hx rfl) (isV_of hy rfl) 10000 (by decide) w
    unfold eqW at h
    split at h
    · obtain ⟨r, hr, hK⟩ := h
      exact Does.pure hI (by simp only [Sem.run_bind, run_eqGuard_agg w _ t ox oy cx cy hg, Result.andThen_ok, run_eql_struct, eqrun r hr]) (relV_mkBool _) hK
    · obtain ⟨r, hr, hK⟩ := h
      exact Does.pure hI (by simp only [Sem.run_bind, run_eqGuard_agg w _ t ox oy cx cy hg, Result.andThen_ok, run_neq_struct, eqrun r hr]) (relV_mkBool _) hK
    · exact h.elim
  · exact h.elim

theorem un_does (hI : Inv g σ w) {op : UnOp} {x : AV} {X : Value} {K : AV → AST → Prop} (hx : relV g w x X) (h : unW op x (fun v => K v σ)) : Does P g w (Op.unary op X) K := by
  unfold unW at h
  split at h
  · obtain rfl := relV_bool hx
    exact Does.pure hI (by simp [Op.unary]) (relV_mkBool _) h
  · obtain rfl := relV_int hx
    exact Does.pure hI (by simp [Op.unary, Op.intArith]) (relV_mkInt _ _) h
  · exact h.elim

/-! ### Conversions -/

theorem grownCap_le {need old : Nat} {e : TypeId} (h : need ≤ maxL) : need ≤ grownCap w need old e ∧ grownCap w need old e ≤ maxL := by
  have e1 : grownCap w need old e = need + w.tape w.drawn (.appendCap need old e) % (2 ^ 63 - need) := rfl
  rw [e1]
  unfold maxL at *
  have : w.tape w.drawn (.appendCap need old e) % (2 ^ 63 - need) < 2 ^ 63 - need := Nat.mod_lt _ (by omega)
  omega

theorem relEs_u8s (l : List UInt8) : relEs g w 1 (u8s l) (l.map fun b => Value.int .u8 b.toNat) := by
  induction l with
  | nil => simp [u8s, relEs]
  | cons b l ih => simp only [u8s, List.map_cons, relEs]; exact ⟨[_], _, rfl, rfl, by simp [relC], ih⟩

theorem freeze_alloc (w : World) (c : Array Value) (e : TypeId) (n : Nat) : (w.alloc (.cells c e)).freeze ⟨w.heap.size, n, none⟩ 1 = w.alloc (.cells c e (n, n + 1)) := by
  unfold World.freeze
  rw [if_neg (by omega)]
  unfold World.alloc
  congr 1
  apply Array.ext_getElem?
  intro j
  simp only [Array.getElem?_modify, Array.getElem?_push]
  by_cases hj : j = w.heap.size
  · subst hj; simp
  · have hj' : ¬ w.heap.size = j := fun h => hj h.symm
    simp [hj, hj']

theorem bytesWorld_eq (w : World) (e : TypeId) (s : ByteArray) :
    Lib.bytesWorld w e s = w.drew.alloc (.cells (Lib.bytesCells w e s) e ((Lib.bytesCells w e s).size, (Lib.bytesCells w e s).size + 1)) := by
  unfold Lib.bytesWorld
  exact freeze_alloc w.drew _ _ _


theorem unU8_cells : ∀ {xs : List AV} {l : List UInt8} {cs : List Value} {es : Nat}, unU8 xs = some l → relEs g w es xs cs → xs ≠ [] → ∃ ns : List Int, cs = ns.map (Value.int .u8) ∧ ns.map (fun n => UInt8.ofNat n.toNat) = l ∧ ns.length = xs.length
  | [], l, cs, es, h, hr, hn => absurd rfl hn
  | v :: xs, l, cs, es, h, hr, _ => by
    simp only [relEs] at hr
    obtain ⟨c1, c2, rfl, hl, h1, h2⟩ := hr
    have hv : ∃ n, v = .int .u8 n := by
      cases v with
      | int k n => cases k <;> first | exact ⟨n, rfl⟩ | simp [unU8] at h
      | _ => simp [unU8] at h
    obtain ⟨n, rfl⟩ := hv
    simp only [unU8, Option.map_eq_some_iff] at h
    obtain ⟨l', hl', rfl⟩ := h
    simp only [relC] at h1; subst h1
    by_cases hne : xs = []
    · subst hne
      simp only [relEs] at h2; subst h2
      simp only [unU8, Option.some.injEq] at hl'; subst hl'
      exact ⟨[n], rfl, rfl, rfl⟩
    · obtain ⟨ns, rfl, h3, h4⟩ := unU8_cells hl' h2 hne
      exact ⟨n :: ns, rfl, by simp [h3], by simp [h4]⟩

theorem foldl_push (ns : List Int) : ∀ (r : ByteArray), ns.foldl (fun r n => r.push (UInt8.ofNat n.toNat)) r = ⟨(r.data.toList ++ ns.map (fun n => UInt8.ofNat n.toNat)).toArray⟩ := by
  induction ns with
  | nil => intro r; simp
  | cons n ns ih =>
    intro r
    simp only [List.foldl_cons, ih, List.map_cons]
    congr 1
    apply Array.ext'
    simp [ByteArray.push]

theorem unU8_length : ∀ {xs : List AV} {l : List UInt8}, unU8 xs = some l → l.length = xs.length
  | [], l, h => by simp [unU8] at h; subst h; rfl
  | v :: xs, l, h => by
    have hv : ∃ n, v = .int .u8 n := by
      cases v with
      | int k n => cases k <;> first | exact ⟨n, rfl⟩ | simp [unU8] at h
      | _ => simp [unU8] at h
    obtain ⟨n, rfl⟩ := hv
    simp only [unU8, Option.map_eq_some_iff] at h
    obtain ⟨l', hl', rfl⟩ := h
    simp [unU8_length hl']

theorem relPs_u8z (l : List UInt8) (n : Nat) : relPs g w (u8s l ++ List.replicate n (.int .u8 0)) ((l.map fun b => Value.int .u8 b.toNat) ++ List.replicate n (.int .u8 0)) := by
  induction l with
  | nil =>
    simp only [u8s, List.map_nil, List.nil_append]
    induction n with
    | zero => simp [relPs]
    | succ n ih => simp only [List.replicate_succ, relPs]; exact ⟨[_], _, rfl, by simp [relC], ih⟩
  | cons b l ih => simp only [u8s, List.map_cons, List.cons_append, relPs]; exact ⟨[_], _, rfl, by simp [relC], ih⟩

theorem unU8_parts : ∀ {n : Nat} {xs : List AV} {l : List UInt8} {cs : List Value}, unU8 (xs.take n) = some l → n ≤ xs.length → relPs g w xs cs → ∃ ns : List Int, cs.take n = ns.map (Value.int .u8) ∧ ns.map (fun n => UInt8.ofNat n.toNat) = l ∧ ns.length = n ∧ n ≤ cs.length
  | 0, xs, l, cs, h, _, hr => by simp [unU8] at h; subst h; exact ⟨[], by simp, rfl, rfl, by omega⟩
  | n + 1, [], l, cs, h, hn, hr => by simp at hn
  | n + 1, v :: xs, l, cs, h, hn, hr => by
    rw [List.take_succ_cons] at h
    have hv : ∃ n, v = .int .u8 n := by
      cases v with
      | int k n => cases k <;> first | exact ⟨n, rfl⟩ | simp [unU8] at h
      | _ => simp [unU8] at h
    obtain ⟨m, rfl⟩ := hv
    simp only [unU8, Option.map_eq_some_iff] at h
    obtain ⟨l', hl', rfl⟩ := h
    simp only [relPs] at hr
    obtain ⟨c1, c2, rfl, h1, h2⟩ := hr
    simp only [relC] at h1; subst h1
    obtain ⟨ns, h3, h4, h5, h6⟩ := unU8_parts hl' (by simpa using hn) h2
    exact ⟨m :: ns, by simp [h3], by simp [h4], by simp [h5], by simp; omega⟩

theorem conv_does (hI : Inv g σ w) {s d : TypeId} {x : AV} {X : Value} {K : AV → AST → Prop} (hx : relV g w x X) (h : convW P s d x σ K) : Does P g w (convert s d X) K := by
  unfold convW at h
  split at h
  · rename_i k' n
    obtain ⟨k, hd, ⟨u, hu⟩, hK⟩ := h
    obtain rfl := relV_int hx
    exact Does.pure hI (by simp [convert, run_underlying hd, run_underlying hu, Conv.intToInt]) (relV_mkInt _ _) hK
  · rename_i l
    obtain ⟨rfl, hlen⟩ := relV_str hx
    rcases h with ⟨hd, hs, hK⟩ | ⟨e, hd, he, hs, hK⟩
    · exact Does.pure hI (by simp [convert, run_underlying hd, run_underlying hs]) hx hK
    · have hrun := Lib.run_convert_string_bytes w s d e ⟨l.toArray⟩ hs hd he
      have hsz : (⟨l.toArray⟩ : ByteArray).size = l.length := bytes_size l
      have hcap := grownCap_le (w := w) (need := l.length) (old := 0) (e := e) hlen
      rw [bytesWorld_eq, hsz] at hrun
      have hcs : (Lib.bytesCells w e ⟨l.toArray⟩).toList = (l.map fun b => Value.int .u8 b.toNat) ++ List.replicate (grownCap w l.length 0 e - l.length) (.int .u8 0) := by
        simp [Lib.bytesCells, hsz]
      have hsize : (Lib.bytesCells w e ⟨l.toArray⟩).size = grownCap w l.length 0 e := by
        rw [← Array.length_toList, hcs]; simp; omega
      generalize Lib.bytesCells w e ⟨l.toArray⟩ = cells at *
      rcases hK with hK | hK
      rotate_left
      · have hin : ∀ g', Ev g w.drew g' (w.drew.alloc (.cells cells e (cells.size, cells.size + 1))) → objIn g' (w.drew.alloc (.cells cells e (cells.size, cells.size + 1))) w.drew.heap.size (AV.agg (u8s l ++ List.replicate (grownCap w l.length 0 e - l.length) (.int .u8 0))).shape (.cells (.agg (u8s l ++ List.replicate (grownCap w l.length 0 e - l.length) (.int .u8 0)))) :=
          fun g' hE => ⟨_, _, _, alloc_new, .inr (Nat.le_refl _), by simp only [relC]; rw [hcs]; exact relPs_u8z _ _, rfl⟩
        obtain ⟨hE1, hI1⟩ := inv_push (inv_drew hI) hin
        refine ⟨_, _, _, .arr σ.objs.length [] l.length, _, hrun, (ev_drew g w).trans hE1, hI1, relV_of ?_ rfl, hK (grownCap w l.length 0 e - l.length) (by omega)⟩
        simp only [relC, Value.cells]
        exact ⟨w.heap.size, _, 0, grownCap w l.length 0 e, by rw [hI.nobj]; simp; rfl, by simp [AV.shape, Shape.off], by simp, hcap.1, hcap.2⟩
      obtain ⟨hE1, hI1⟩ := inv_row (c := cells) (e := e) (fr := (cells.size, cells.size + 1)) (n := l.length) (inv_drew hI) (by omega) (.inr (Nat.le_refl _))
      simp only [World.size_drew] at hE1 hI1
      obtain ⟨hE2, hI2⟩ := inv_tok hI1 ⟨some (w.heap.size, 0), l.length, grownCap w l.length 0 e, 1⟩ hcap.1 hcap.2 (fun h => by cases h) (by
        intro b o hbo hlt
        simp only [Option.some.injEq, Prod.mk.injEq] at hbo
        obtain ⟨rfl, rfl⟩ := hbo
        refine ⟨by simp [G.row], ⟨cells, e, _, by rw [← World.size_drew]; exact alloc_new, by simp; omega, .inr (by simp)⟩, ?_⟩
        intro t e' ht o' ha hlt'
        obtain ⟨_, _, _, _, h5⟩ := hI.tok t e' ht
        obtain ⟨_, c2, el2, fr2, hc2, _⟩ := h5 _ _ ha hlt'
        have := lt_of_blk hc2
        omega)
      have hEE := (ev_drew g w).trans (hE1.trans hE2)
      refine ⟨_, _, _, .slice (.own σ.toks.length) (u8s l), _, hrun, hEE, hI2, relV_of ?_ rfl, hK⟩
      simp only [relC, Value.cells]
      refine ⟨some (mkAddr (w.heap.size, 0)), some (w.heap.size, 0), grownCap w l.length 0 e, 1, l.map fun b => Value.int .u8 b.toNat, by simp [mkAddr, u8s], .inl rfl, relEs_u8s l, by simpa [u8s] using hcap.1, hcap.2, (fun h => by cases h), (fun b o hbo => .inr ?_), ?_⟩
      · simp only [Option.some.injEq, Prod.mk.injEq] at hbo
        obtain ⟨rfl, rfl⟩ := hbo
        refine ⟨⟨cells, e, _, by rw [← World.size_drew]; exact alloc_new, fun j hj => ?_⟩, .inr ⟨l.length, by simp [G.row], by simp⟩⟩
        rw [← Array.getElem?_toList, hcs, Nat.zero_add, List.getElem?_append_left hj]
      · exact ⟨⟨some (w.heap.size, 0), l.length, grownCap w l.length 0 e, 1⟩, by rw [hI.ntok]; simp [G.row], by simp [u8s], fun _ => ⟨rfl, rfl⟩, .inr rfl⟩
  · rename_i tk xs
    rcases h with ⟨e, l, hs, he, hd, hl, hK⟩ | ⟨rfl, rfl, e, hs, he, hK⟩
    · obtain ⟨ad, a, c, es, css, rfl, had, hes, hc, hcm, hnone, hmem, _⟩ := relV_slice hx
      have hll := unU8_length hl
      refine Does.pure hI (x := .string ⟨l.toArray⟩) (v := .str l) ?_ (relV_mkStr (by omega)) hK
      rw [run_convert_bytes_string w s d e _ _ _ hs he hd]
      cases a with
      | none =>
        have h0 := hnone rfl
        have : xs = [] := List.eq_nil_of_length_eq_zero (by omega)
        subst this
        simp [unU8] at hl; subst hl
        cases ad with
        | none => simp [Conv.bytesToString]; rfl
        | some ad => exact run_bytesToString (P := P) w ad 0 c [] (by simp [loadCells, loadCellsFrom])
      | some bo =>
        obtain ⟨b, o⟩ := bo
        obtain rfl := had.some
        by_cases hne : xs = []
        · subst hne
          simp [unU8] at hl; subst hl
          have := run_bytesToString (P := P) w ⟨b, o, none⟩ 0 c [] (by simp [loadCells, loadCellsFrom])
          exact this
        · obtain ⟨ns, rfl, h3, h4⟩ := unU8_cells hl hes hne
          rcases hmem b o rfl with h0 | ⟨hr, _⟩
          · simp at h0; subst h0; simp at h4; exact absurd (List.eq_nil_of_length_eq_zero h4.symm) hne
          · have hload := run_loadCells_list (P := P) w ⟨b, o, none⟩ _ (rd_cell hr)
            simp only [List.length_map, h4] at hload
            have := run_bytesToString (P := P) w ⟨b, o, none⟩ xs.length c ns hload
            simp only [mkAddr]
            rw [this, foldl_push, h3]
            rfl
    · obtain ⟨ad, a, c, es, css, rfl, had, hes, hc, hcm, hnone, hmem, htk⟩ := relV_slice hx
      obtain ⟨hcn, b, o, L, rfl, hb, hL⟩ := htk
      obtain rfl := had.some
      obtain ⟨_, cc, ce, fr, hcc, _⟩ := hI.rows b L hL
      obtain ⟨hE, hI'⟩ := inv_mark hI hb hL hcc
      have hrun : (convert s s (.slice (some (mkAddr (b, o))) xs.length c)).run P w = .ok (.slice (some (mkAddr (b, o))) xs.length c) (w.freeze ⟨b, cc.size, none⟩ 1) := by
        have hsh : w.shape? b = some (ce, cc.size) := by unfold World.shape?; rw [hcc]
        simp [convert, run_underlying hs, run_underlying he, markStringish, hsh, mkAddr]
      refine ⟨_, _, _, .slice .full xs, _, hrun, hE, hI', relV_mono hE (relV_of ?_ rfl), hK⟩
      simp only [relC, Value.cells]
      exact ⟨some (mkAddr (b, o)), some (b, o), c, es, css, rfl, .inl rfl, hes, hc, hcm, hnone, hmem, hcn⟩
  · rename_i i p n
    split at h
    · rename_i v hobj
      split at h
      · rename_i dg hat
        obtain ⟨rfl, e, hs, he, hd, hK⟩ := h
        have hsc := (relV_scalar hx rfl rfl).1
        simp only [relC, List.cons.injEq, and_true] at hsc
        obtain ⟨b, sh, o, c, hg, ho, rfl, hmc, hcm⟩ := hsc
        obtain ⟨_, _, cc, ce, fr, hc, hfr, hr, hsv⟩ := obj_cells hI hobj hg
        obtain ⟨cu, hcu, hcell, _⟩ := at_rel hr hat (hsv ▸ ho)
        simp only [relC] at hcu
        have hrd : rd w b o cu := ⟨cc, ce, fr, hc, fun j hj => by rw [← hcell j hj]; simp⟩
        have hload := run_loadCells_list (P := P) w ⟨b, o, none⟩ _ (rd_cell hrd)
        have hlen : cu.length = 32 := by rw [hcu, List.length_map, dg.h]
        rw [hlen] at hload
        have hcu2 : cu = (dg.l.map fun b => (b.toNat : Int)).map (Value.int .u8) := by rw [hcu, List.map_map]; rfl
        rw [hcu2] at hload
        refine Does.pure hI (x := .string ⟨dg.l.toArray⟩) (v := .str dg.l) ?_ (relV_mkStr (by rw [dg.h]; decide)) hK
        rw [run_convert_bytes_string w s d e _ _ _ hs he hd]
        have := run_bytesToString (P := P) w ⟨b, o, none⟩ 32 c _ hload
        rw [this, foldl_push, List.map_map]
        have e : (dg.l.map ((fun n : Int => UInt8.ofNat n.toNat) ∘ fun b => (b.toNat : Int))) = dg.l := by
          conv => rhs; rw [← List.map_id dg.l]
          apply List.map_congr_left
          intro b _
          simp
        rw [e]; rfl
      · rename_i ps hat
        obtain ⟨e, l, hs, he, hd, hl, hnl, hK⟩ := h
        have hsc := (relV_scalar hx rfl rfl).1
        simp only [relC, List.cons.injEq, and_true] at hsc
        obtain ⟨b, sh, o, c, hg, ho, rfl, hmc, hcm⟩ := hsc
        obtain ⟨_, _, cc, ce, fr, hc, hfr, hr, hsv⟩ := obj_cells hI hobj hg
        obtain ⟨cu, hcu, hcell, _⟩ := at_rel hr hat (hsv ▸ ho)
        simp only [relC] at hcu
        obtain ⟨ns, h3, h4, h5, h6⟩ := unU8_parts hl hnl hcu
        have hll := unU8_length hl
        rw [List.length_take] at hll
        have hrd : rd w b o (cu.take n) := ⟨cc, ce, fr, hc, fun j hj => by
          rw [List.length_take] at hj
          rw [List.getElem?_take, if_pos (by omega), ← hcell j (by omega)]; simp⟩
        have hload := run_loadCells_list (P := P) w ⟨b, o, none⟩ _ (rd_cell hrd)
        have hlen : (cu.take n).length = n := by rw [h3, List.length_map, h5]
        rw [hlen, h3] at hload
        refine Does.pure hI (x := .string ⟨l.toArray⟩) (v := .str l) ?_ (relV_mkStr (by omega)) hK
        rw [run_convert_bytes_string w s d e _ _ _ hs he hd]
        have := run_bytesToString (P := P) w ⟨b, o, none⟩ n c _ hload
        rw [this, foldl_push, h4]; rfl
      · exact h.elim
    · exact h.elim
  · exact h.elim

/-! ### Slices' expressions -/

theorem relEs_take {es : Nat} : ∀ {xs : List AV} {cs : List Value} (h : Nat), relEs g w es xs cs → relEs g w es (xs.take h) (cs.take (h * es))
  | [], cs, h, hr => by simp only [relEs] at hr; subst hr; simp [relEs]
  | x :: xs, cs, 0, hr => by simp [relEs]
  | x :: xs, cs, h + 1, hr => by
    simp only [relEs] at hr
    obtain ⟨c1, c2, rfl, hl, h1, h2⟩ := hr
    simp only [List.take_succ_cons, relEs]
    refine ⟨c1, c2.take (h * es), ?_, hl, h1, relEs_take h h2⟩
    rw [List.take_append, hl, Nat.add_mul, Nat.one_mul, List.take_of_length_le (by omega)]
    congr 2; omega

theorem relEs_drop {es : Nat} : ∀ {xs : List AV} {cs : List Value} (l : Nat), relEs g w es xs cs → relEs g w es (xs.drop l) (cs.drop (l * es))
  | [], cs, l, hr => by simp only [relEs] at hr; subst hr; simp [relEs]
  | x :: xs, cs, 0, hr => by simpa using hr
  | x :: xs, cs, l + 1, hr => by
    simp only [relEs] at hr
    obtain ⟨c1, c2, rfl, hl, h1, h2⟩ := hr
    have e0 : (c1 ++ c2).drop ((l + 1) * es) = c2.drop (l * es) := by
      have e1 : (l + 1) * es = l * es + es := by rw [Nat.add_mul, Nat.one_mul]
      rw [List.drop_append, List.drop_of_length_le (show c1.length ≤ (l + 1) * es by omega), List.nil_append, hl, e1]
      congr 1; omega
    rw [e0]
    exact relEs_drop l h2

theorem bnd_run {v : Option AV} {X : Option Value} {dflt : Nat} {K : Nat → Prop} (hv : (v = none ∧ X = none) ∨ ∃ a x, v = some a ∧ X = some x ∧ relV g w a x) (h : bndW v dflt K) :
    ∃ n, K n ∧ ((X = none ∧ n = dflt) ∨ ∃ k, X = some (.int k n)) := by
  rcases hv with ⟨rfl, rfl⟩ | ⟨a, x, rfl, rfl, hr⟩
  · exact ⟨dflt, h, .inl ⟨rfl, rfl⟩⟩
  · cases a <;> simp only [bndW] at h <;> try exact h.elim
    rename_i k n
    obtain rfl := relV_int hr
    refine ⟨n.toNat, h.2, .inr ⟨k, ?_⟩⟩
    have : ((n.toNat : Nat) : Int) = n := by omega
    rw [this]

def relO (g : G) (w : World) (v : Option AV) (X : Option Value) : Prop := (v = none ∧ X = none) ∨ ∃ a x, v = some a ∧ X = some x ∧ relV g w a x

theorem run_bound (k : IntKind) (n y : Nat) (code : BoundsCode) (h : n ≤ y) : (Instr.sliceBound (.int k n) y code).run P w = .ok n w := by
  have := run_sliceBound (P := P) w k n y code (by omega) (by omega)
  simpa using this

theorem run_bounds (b : Bool) (len cap l h m : Nat) (LO HI MX : Option Value) (h1 : l ≤ h) (h2 : h ≤ m) (h3 : m ≤ cap) (hl : (LO = none ∧ l = 0) ∨ ∃ k, LO = some (.int k l)) (hh : (HI = none ∧ h = len) ∨ ∃ k, HI = some (.int k h))
    (hm : (MX = none ∧ m = cap) ∨ (HI.isSome = true ∧ ∃ k, MX = some (.int k m))) : (Instr.sliceBounds b len cap LO HI MX).run P w = .ok (l, h, m) w := by
  rcases hm with ⟨rfl, rfl⟩ | ⟨hs, k, rfl⟩
  · rcases hh with ⟨rfl, rfl⟩ | ⟨kh, rfl⟩ <;> rcases hl with ⟨rfl, rfl⟩ | ⟨kl, rfl⟩ <;> simp [Instr.sliceBounds, run_bound, h1, h2]
  · rcases hh with ⟨rfl, rfl⟩ | ⟨kh, rfl⟩
    · simp at hs
    · rcases hl with ⟨rfl, rfl⟩ | ⟨kl, rfl⟩ <;> simp [Instr.sliceBounds, run_bound, h1, h2, h3]

theorem str_extract (s : List UInt8) (l h : Nat) : ByteArray.extract ⟨s.toArray⟩ l h = ⟨((s.take h).drop l).toArray⟩ := by
  apply ByteArray.ext
  apply Array.ext'
  rw [ByteArray.data_extract]
  simp [List.drop_take]

theorem slice_does (hI : Inv g σ w) {t : TypeId} {x : AV} {X : Value} {lo hi mx : Option AV} {LO HI MX : Option Value} {K : AV → AST → Prop} (hx : relV g w x X) (hlo : relO g w lo LO) (hhi : relO g w hi HI) (hmx : relO g w mx MX)
    (h : sliceW P t x lo hi mx (fun v => K v σ)) : Does P g w (Instr.sliceAt t X LO HI MX) K := by
  unfold sliceW at h
  split at h
  · rename_i s
    obtain ⟨hu, hm, h⟩ := h
    obtain ⟨rfl, hlen⟩ := relV_str hx
    obtain ⟨l, h, hl⟩ := bnd_run hlo h
    obtain ⟨hh, h, hr⟩ := bnd_run hhi h
    obtain ⟨h1, h2, hK⟩ := h
    have hM : MX = none := by
      rcases hmx with ⟨_, h⟩ | ⟨a, x, rfl, _⟩
      · exact h
      · simp at hm
    subst hM
    have hsz := bytes_size s
    have hb := run_bounds (P := P) (w := w) false s.length s.length l hh s.length LO HI none h1 h2 (Nat.le_refl _) hl hr (.inl ⟨rfl, rfl⟩)
    refine Does.pure hI (x := .string ⟨((s.take hh).drop l).toArray⟩) (v := .str ((s.take hh).drop l)) ?_ (relV_mkStr (by simp; omega)) hK
    simp [Instr.sliceAt, Instr.slice, run_underlying hu, hsz, hb, str_extract]
  · rename_i tk xs
    obtain ⟨e, hu, hsizes, ⟨d, hd⟩, h⟩ := h
    obtain ⟨ad, a, c, es, css, rfl, had, hes, hc, hcm, hnone, hmem, htk⟩ := relV_slice hx
    obtain ⟨l, h, hl⟩ := bnd_run hlo h
    obtain ⟨hh, h, hr⟩ := bnd_run hhi h
    obtain ⟨h1, h2, h⟩ := h
    have hes' := relEs_drop l (relEs_take hh hes)
    have hlen' : ((xs.take hh).drop l).length = hh - l := by simp; omega
    have hesz : (xs.take hh).drop l ≠ [] → es = P.cellsOf e := by
      intro hne
      obtain ⟨v, hv⟩ := List.exists_mem_of_ne_nil _ hne
      have hv' : v ∈ xs := List.mem_of_mem_take (List.mem_of_mem_drop hv)
      obtain ⟨j, hj⟩ := List.mem_iff_getElem?.1 hv'
      obtain ⟨cx, hcx, hlx, _⟩ := relEs_nth hes hj
      rw [← hsizes v hv', ← relC_size hcx, hlx]
    -- the new slice
    have main : ∀ (m : Nat) (tk' : Tk), hh ≤ m → m ≤ c → tkOk g (if m = l then a else a.map fun x => (x.1, x.2 + l * P.cellsOf e)) (hh - l) (m - l) es tk' →
        (Instr.sliceBounds true xs.length c LO HI MX).run P w = .ok (l, hh, m) w → K (.slice tk' ((xs.take hh).drop l)) σ →
        Does P g w (Instr.sliceAt t (.slice ad xs.length c) LO HI MX) K := by
      intro m tk' hm1 hm2 htk' hb hK
      refine Does.pure hI (x := .slice (if m = l then ad else ad.map (·.add (l * P.cellsOf e))) (hh - l) (m - l)) (v := .slice tk' ((xs.take hh).drop l)) ?_ (relV_of ?_ rfl) hK
      · simp only [Instr.sliceAt, Instr.slice, Sem.run_bind, run_underlying hu, Result.andThen_ok, hb, run_sizeOf' hd, Sem.run_pure]
      · simp only [relC, Value.cells]
        refine ⟨_, _, m - l, es, _, by rw [hlen'], ?_, hes', by rw [hlen']; omega, by omega, ?_, ?_, by rw [hlen']; exact htk'⟩
        · cases a with
          | none => exact .inr ⟨by split <;> rfl, by have := hnone rfl; omega⟩
          | some bo =>
            obtain rfl := had.some
            left
            split
            · rfl
            · simp [mkAddr, mk_add]
        · intro hn
          split at hn
          · omega
          · cases a with
            | none => have := hnone rfl; omega
            | some bo => simp at hn
        · intro b o hbo
          by_cases hne : (xs.take hh).drop l = []
          · left
            rw [hne] at hes'
            simpa [relEs] using hes'
          · by_cases hcss : css = []
            · left; rw [hcss]; simp
            right
            have hee := hesz hne
            have hml : m ≠ l := by
              rintro rfl
              apply hne
              apply List.eq_nil_of_length_eq_zero
              rw [hlen']; omega
            rw [if_neg hml] at hbo
            cases a with
            | none => simp at hbo
            | some bo =>
              obtain ⟨b', o'⟩ := bo
              simp only [Option.map_some, Option.some.injEq, Prod.mk.injEq] at hbo
              obtain ⟨rfl, rfl⟩ := hbo
              have hsl := relEs_size hes'
              have hsc := relEs_size hes
              rw [hlen'] at hsl
              have hle : (hh - l) * es + l * es ≤ xs.length * es := by
                rw [← Nat.add_mul]; exact Nat.mul_le_mul_right _ (by omega)
              rcases hmem b' o' rfl with h0 | ⟨⟨c', e', fr, hc', hj⟩, hb⟩
              · exact absurd h0 hcss
              · rw [← hee]
                refine ⟨⟨c', e', fr, hc', fun j hjl => ?_⟩, ?_⟩
                · rw [List.getElem?_drop, List.getElem?_take]
                  rw [hsl] at hjl
                  have h7 : hh * es = (hh - l) * es + l * es := by rw [← Nat.add_mul]; congr 1; omega
                  rw [if_pos (by omega), ← hj (l * es + j) (by omega)]
                  congr 1; omega
                · rcases hb with hb | ⟨L, hL, hLe⟩
                  · exact .inl hb
                  · exact .inr ⟨L, hL, by rw [hsl]; omega⟩
    split at h
    · rename_i hmn
      have hM : MX = none := by
        rcases hmx with ⟨_, h⟩ | ⟨a, x, h0, _⟩
        · exact h
        · cases h0
      subst hM
      have hb := run_bounds (P := P) (w := w) true xs.length c l hh c LO HI none h1 (by omega) (Nat.le_refl _) hl hr (.inl ⟨rfl, rfl⟩)
      refine main c _ (by omega) (Nat.le_refl _) ?_ hb h
      cases tk with
      | none => trivial
      | lit => trivial
      | own k => trivial
      | full =>
        simp only [tkOk] at htk
        by_cases hq : hh = xs.length
        · simp only [hq, beq_self_eq_true, subTk, tkOk]; omega
        · have hq' : (hh == xs.length) = false := by simpa using hq
          simp only [hq', subTk, tkOk]
    · rename_i km m hmm
      obtain ⟨rfl, hsome, hK⟩ := h
      have hM : ∃ k, MX = some (.int k hh) := by
        rcases hmx with ⟨h0, _⟩ | ⟨a, x, h0, rfl, hr⟩
        · cases h0
        · cases h0
          obtain rfl := relV_int hr
          exact ⟨_, rfl⟩
      obtain ⟨k, rfl⟩ := hM
      have hHI : HI.isSome = true := by
        rcases hhi with ⟨rfl, _⟩ | ⟨a, x, _, rfl, _⟩
        · simp at hsome
        · rfl
      have hb := run_bounds (P := P) (w := w) true xs.length c l hh hh LO HI (some (.int k hh)) h1 (Nat.le_refl _) (by omega) hl hr (.inr ⟨hHI, k, rfl⟩)
      exact main hh .full (Nat.le_refl _) (by omega) (by simp [tkOk]) hb hK
    · exact h.elim
  · rename_i i p
    obtain ⟨e, n, hua, hn, ⟨d, hd⟩, hm, hl, h⟩ := h
    obtain ⟨b, sh, o, hg, ho, rfl⟩ := relV_ptr hx
    obtain ⟨hh, h, hr⟩ := bnd_run hhi h
    obtain ⟨h2, hK⟩ := h
    have hM : MX = none := by
      rcases hmx with ⟨_, h⟩ | ⟨a, x, rfl, _⟩
      · exact h
      · simp at hm
    have hL : LO = none := by
      rcases hlo with ⟨_, h⟩ | ⟨a, x, rfl, _⟩
      · exact h
      · simp at hl
    subst hM; subst hL
    have hb := run_bounds (P := P) (w := w) false n n 0 hh n none HI none (Nat.zero_le _) h2 (Nat.le_refl _) (.inl ⟨rfl, rfl⟩) hr (.inl ⟨rfl, rfl⟩)
    refine Does.pure hI (x := .slice (some ⟨b, o, none⟩) hh n) (v := .arr i p hh) ?_ (relV_of ?_ rfl) hK
    · rcases hua with ⟨a, hu, hua⟩ | hu
      · simp [Instr.sliceAt, Instr.slice, run_underlying hu, run_underlying hua, asAddr, hb, run_sizeOf' hd, mk_add]
      · simp [Instr.sliceAt, Instr.slice, run_underlying hu, Instr.sureAddr, hb, run_sizeOf' hd, mk_add]
    · simp only [relC, Value.cells]
      exact ⟨b, sh, o, n, hg, ho, rfl, h2, hn⟩
  · exact h.elim

theorem copy_does (hI : Inv g σ w) {ts : Array TypeId} {ty : TypeId} {x y : AV} {X Y : Value} {K : AV → AST → Prop} (hx : relV g w x X) (hy : relV g w y Y) (h : copyW P ts x y σ K) : Does P g w (Builtin.copy_ ts ty #[X, Y]) K := by
  obtain ⟨t, e, h0, hu, hce, ⟨u, hue⟩, h⟩ := h
  split at h
  · rename_i i p n l
    split at h
    · rename_i v hobj
      split at h
      · rename_i dg hat
        obtain ⟨rfl, hl, hok, hK⟩ := h
        have hsc := (relV_scalar hx rfl rfl).1
        simp only [relC, List.cons.injEq, and_true] at hsc
        obtain ⟨b, sh, o, c, hg, ho, rfl, hmc, hcm⟩ := hsc
        obtain ⟨rfl, _⟩ := relV_str hy
        obtain ⟨_, _, cc, ce, fr, hc, hfr, hr, hsv⟩ := obj_cells hI hobj hg
        obtain ⟨cu, hcu, hcell, hle⟩ := at_rel hr hat (hsv ▸ ho)
        have hcul := relC_size hcu
        have hsz := bytes_size l
        let z : List Value := l.map fun b => Value.int .u8 b.toNat
        have hzl : z.length = 32 := by simp [z, hl]
        have hz : relC g w (.dig ⟨l, hl⟩) z := by simp only [relC]; rfl
        have hst := run_storeCells_fr P b o ce fr z 0 cc w hc hfr (by rw [hzl]; simp [AV.size] at hcul; rw [hcul] at hle; simpa using hle) (relC_cell1 hz)
        have hst' : (storeCells ⟨b, o, none⟩ z).run P w = .ok () (setBlk w b (.cells (splice cc.toList o z).toArray ce fr)) := by
          rw [hst, setRow_eq_setBlk _ hc]; simp [splice]
        have hfirst : (Builtin.firstCells 1 32 (.string ⟨l.toArray⟩)).run P w = .ok z.toArray w := by
          simp only [Builtin.firstCells, Sem.run_pure]
          congr 1
          apply Array.ext'
          have : ByteArray.extract ⟨l.toArray⟩ 0 32 = ⟨l.toArray⟩ := by rw [str_extract]; rw [← hl]; simp
          rw [this]; simp [z]
        have hse : (sizeOf e).run P w = .ok 1 w := by rw [run_sizeOf' hue, hce]
        have hrun : (Builtin.copy_ ts ty #[.slice (some ⟨b, o, none⟩) 32 c, .string ⟨l.toArray⟩]).run P w = .ok (.int .i64 32) (setBlk w b (.cells (splice cc.toList o z).toArray ce fr)) := by
          have hmin : Nat.min l.length 32 = 32 := by rw [hl]; rfl
          simp only [Builtin.copy_, h0, List.getElem?_toArray, List.getElem?_cons_zero, List.getElem?_cons_succ, Sem.run_bind, run_underlying hu, Result.andThen_ok, Builtin.lenOf, Sem.run_pure, hsz, hmin, hse, hfirst, hst', goInt]
          rfl
        have hE := ev_obj (o := .cells (splice cc.toList o z).toArray ce fr) hI (obj_cells hI hobj hg).1 (obj_cells hI hobj hg).2.1
        have hsh : (AV.dig ⟨l, hl⟩).shape = (AV.dig dg).shape := by simp [AV.shape]
        have hspl : (splice cc.toList o z).toArray.size = cc.size := by
          have h1 : o + z.length ≤ cc.toList.length := by rw [hzl]; simp [AV.size] at hcul; rw [hcul] at hle; simpa using hle
          have := splice_len h1
          simpa using this
        have hin : objIn g (setBlk w b (.cells (splice cc.toList o z).toArray ce fr)) b sh (.cells (v.setAt p (.dig ⟨l, hl⟩))) := by
          refine ⟨_, _, _, setBlk_same (lt_of_blk hc), by rw [hspl]; exact hfr, ?_, by rw [setAt_shape hat hsh hok, hsv]⟩
          have := setAt_rel hr hat (hsv ▸ ho) hz hsh hok
          simpa using relC_mono hE this
        obtain ⟨hE', hI'⟩ := inv_setObj hI hobj rfl hg hin
        exact ⟨_, _, g, .int .i64 32, _, hrun, hE', hI', relV_mkInt _ _, hK⟩
      · exact h.elim
    · exact h.elim
  · exact h.elim

end Go.Aff

namespace Go.Aff

variable {g g' : G} {w w' : World} {σ σ' : AST} {P : Program}

theorem setCell_eq {b o : Nat} {c : Array Value} {e : TypeId} {fr : Nat × Nat} (v : Value) (h : w.heap[b]? = some (.cells c e fr)) :
    w.setCell ⟨b, o, none⟩ v = setBlk w b (.cells (c.setIfInBounds o v) e fr) := by
  obtain ⟨hb, hx⟩ := Array.getElem?_eq_some_iff.1 h
  unfold World.setCell setBlk
  congr 1
  apply Array.ext_getElem?
  intro j
  simp only [Array.getElem?_modify, Array.getElem?_setIfInBounds]
  split
  · rename_i e'; subst e'; rw [h]; rfl
  · rfl

theorem setBlk_setBlk (w : World) (b : Nat) (o o' : Obj) : setBlk (setBlk w b o) b o' = setBlk w b o' := by
  unfold setBlk
  simp

theorem setBlk_self {b : Nat} {o : Obj} (h : w.heap[b]? = some o) : setBlk w b o = w := by
  unfold setBlk
  have : w.heap.setIfInBounds b o = w.heap := by
    apply Array.ext_getElem?
    intro j
    rw [Array.getElem?_setIfInBounds]
    split
    · rename_i e; subst e; rw [if_pos (lt_of_blk h), h]
    · rfl
  rw [this]

theorem setCells_eq {b : Nat} {e : TypeId} {fr : Nat × Nat} : ∀ (vs : List Value) (o : Nat) (c : Array Value) (w : World), w.heap[b]? = some (.cells c e fr) → o + vs.length ≤ c.size →
    w.setCells b o vs = setBlk w b (.cells (splice c.toList o vs).toArray e fr)
  | [], o, c, w, h, hle => by
    have : (splice c.toList o []).toArray = c := by simp [splice]
    rw [this, setBlk_self h]; rfl
  | v :: vs, o, c, w, h, hle => by
    simp only [List.length_cons] at hle
    rw [World.setCells, setCell_eq v h, setCells_eq vs (o + 1) (c.setIfInBounds o v) _ (setBlk_same (lt_of_blk h)) (by simp; omega), setBlk_setBlk]
    congr 2
    apply Array.ext'
    apply List.ext_getElem?
    intro j
    simp only []
    rw [splice_get (by simp; omega), splice_get (by simp; omega)]
    simp only [List.length_cons, Array.toList_setIfInBounds, List.getElem?_set]
    by_cases ej : j = o
    · subst ej
      rw [if_neg (by omega), if_pos (by omega)]
      simp; omega
    · by_cases e2 : o + 1 ≤ j ∧ j < o + 1 + vs.length
      · rw [if_pos e2, if_pos (by omega)]
        have : j - o = (j - (o + 1)) + 1 := by omega
        rw [this, List.getElem?_cons_succ]
      · rw [if_neg e2, if_neg (by omega), if_neg (by omega)]

theorem elems_run {u e : TypeId} {y : AV} {Y : Value} {ys : List AV} (hy : relV g w y Y) (h : elemsOf P u y = some ys) (hs : ∀ v ∈ ys, v.size = P.cellsOf e) :
    ∃ cy, relEs g w (P.cellsOf e) ys cy ∧ (∀ W, (Builtin.lenOf Y).run P W = .ok ys.length W) ∧ (∀ W : World, W.heap = w.heap → (Builtin.firstCells (P.cellsOf e) ys.length Y).run P W = .ok cy.toArray W) ∧
      (∃ d, P.underlying u = some d ∧ ∀ k, d ≠ .int k) ∧ ys.length ≤ maxL := by
  unfold elemsOf at h
  split at h
  · rename_i tk ys'
    split at h
    · rename_i q hu
      cases h
      obtain ⟨ad, a, c, es, css, rfl, had, hes, hc, hcm, hnone, hmem, _⟩ := relV_slice hy
      by_cases hne : ys = []
      · subst hne
        refine ⟨[], by simp [relEs], fun W => by simp [Builtin.lenOf], fun W hW => ?_, ⟨_, hu, fun k h => by cases h⟩, by simp⟩
        cases ad with
        | none => simp [Builtin.firstCells]
        | some bo => simp [Builtin.firstCells, loadCells, loadCellsFrom]
      · obtain ⟨v, hv⟩ := List.exists_mem_of_ne_nil _ hne
        obtain ⟨j, hj⟩ := List.mem_iff_getElem?.1 hv
        obtain ⟨cx, hcx, hlx, _⟩ := relEs_nth hes hj
        have hee : es = P.cellsOf e := by rw [← hs v hv, ← relC_size hcx, hlx]
        subst hee
        refine ⟨css, hes, fun W => by simp [Builtin.lenOf], fun W hW => ?_, ⟨_, hu, fun k h => by cases h⟩, by omega⟩
        cases a with
        | none => have := hnone rfl; have : ys.length = 0 := by omega
                  exact absurd (List.eq_nil_of_length_eq_zero this) hne
        | some bo =>
          obtain ⟨b, o⟩ := bo
          obtain rfl := had.some
          have hsz := relEs_size hes
          have hcell : ∀ j v, css[j]? = some v → W.cell? ((mkAddr (b, o)).add j) = some v := by
            intro j v hjv
            rcases hmem b o rfl with h0 | ⟨hr, _⟩
            · subst h0; simp at hjv
            · have := rd_cell hr j v hjv
              unfold World.cell? at this ⊢
              rw [hW]; exact this
          exact run_firstCells_some W _ _ _ _ _ css hsz hcell
    · cases h
  · rename_i s
    split at h
    · rename_i hu
      cases h
      obtain ⟨rfl, hlen⟩ := relV_str hy
      have hsz := bytes_size s
      refine ⟨s.map fun b => Value.int .u8 b.toNat, ?_, fun W => by simp [Builtin.lenOf, hsz, u8s], fun W hW => ?_, ⟨_, hu, fun k h => by cases h⟩, by simpa [u8s] using hlen⟩
      · by_cases hne : s = []
        · subst hne; simp [u8s, relEs]
        · have h1 : P.cellsOf e = 1 := by
            cases s with
            | nil => exact absurd rfl hne
            | cons b s => exact (hs _ (by simp [u8s]; exact .inl rfl)).symm
          rw [h1]; exact relEs_u8s s
      · simp only [Builtin.firstCells, Sem.run_pure]
        congr 1
        apply Array.ext'
        have : ByteArray.extract ⟨s.toArray⟩ 0 (u8s s).length = ⟨s.toArray⟩ := by rw [str_extract]; simp [u8s]
        rw [this]; simp
    · cases h
  · cases h

section
variable {ts : Array TypeId} {t u e ty : TypeId} {d : TypeDesc} {i : TypeInfo} (h0 : ts[0]? = some t) (h1 : ts[1]? = some u) (hu : P.underlying t = some (.slice e)) (hd : P.underlying u = some d) (hni : ∀ k, d ≠ .int k)
  (hi : P.info? e = some i)
include h0 h1 hu hd hni hi

theorem run_append_in {a : Option Addr} {n c m : Nat} {Y : Value} {news : List Value} (hl : ∀ W, (Builtin.lenOf Y).run P W = .ok m W) (hf : (Builtin.firstCells (P.cellsOf e) m Y).run P w = .ok news.toArray w) (hfit : n + m ≤ c) :
    (Builtin.append_ ts ty #[.slice a n c, Y]).run P w = (match a with | some a => (storeCells (a.add (n * P.cellsOf e)) news).run P w | none => .ok () w).andThen fun _ w' => .ok (.slice a (n + m) c) w' := by
  have hs : i.size = P.cellsOf e := by simp [Program.cellsOf, hi]
  simp only [Builtin.append_, h0, h1, List.getElem?_toArray, List.getElem?_cons_zero, List.getElem?_cons_succ, Sem.run_bind, run_underlying hu, Result.andThen_ok, sizeOf, typeInfo, run_program, hi, Sem.run_pure, run_underlying hd, hs]
  cases d <;> first
    | (exact absurd rfl (hni _))
    | (simp only [Bool.false_eq_true, if_false, hl, Result.andThen_ok, Sem.run_ite, hfit, if_true, Sem.run_bind, Bool.not_false, hf]
       cases a with
       | none => simp
       | some a => simp)

theorem run_append_out {z : Value} (hz : i.zero = some z) {a : Option Addr} {n c m : Nat} {Y : Value} {olds news : List Value} (hl : ∀ W, (Builtin.lenOf Y).run P W = .ok m W) (hf : (Builtin.firstCells (P.cellsOf e) m Y).run P w.drew = .ok news.toArray w.drew)
    (ho : (Builtin.firstCells (P.cellsOf e) n (.slice a n c)).run P w.drew = .ok olds.toArray w.drew) (hfit : c < n + m) (h63 : n + m ≤ maxL) (h48 : Builtin.nextslicecap (n + m) c * i.bytes ≤ 281474976710656) :
    (Builtin.append_ ts ty #[.slice a n c, Y]).run P w =
      .ok (.slice (some ⟨w.heap.size, 0, none⟩) (n + m) (grownCap w (n + m) c e)) (w.drew.alloc (.cells (olds.toArray ++ news.toArray ++ Builtin.zeroCells z.cells (grownCap w (n + m) c e - (n + m))) e)) := by
  have hs : i.size = P.cellsOf e := by simp [Program.cellsOf, hi]
  have hn : ¬ (n + m ≤ c) := by omega
  have hmax : IntKind.i64.max = 9223372036854775807 := by decide
  unfold maxL at h63
  have h63' : ¬ (9223372036854775807 < ((n : Int) + (m : Int))) := by omega
  have h48' : ¬ (281474976710656 < Builtin.nextslicecap (n + m) c * i.bytes) := by omega
  simp only [Builtin.append_, h0, h1, List.getElem?_toArray, List.getElem?_cons_zero, List.getElem?_cons_succ, Sem.run_bind, run_underlying hu, Result.andThen_ok, sizeOf, typeInfo, run_program, hi, Sem.run_pure, run_underlying hd, hs]
  cases d <;> first
    | (exact absurd rfl (hni _))
    | (simp [hl, hn, h63', h48', hf, ho, Question.forced, zeroValue, typeInfo, hi, hz, newRow, grownCap, hmax]
       congr 2
       apply Array.ext'
       simp [List.append_assoc])

end

theorem relEs_append {es : Nat} : ∀ {xs ys : List AV} {cx cy : List Value}, relEs g w es xs cx → relEs g w es ys cy → relEs g w es (xs ++ ys) (cx ++ cy)
  | [], ys, cx, cy, h1, h2 => by simp only [relEs] at h1; subst h1; simpa using h2
  | x :: xs, ys, cx, cy, h1, h2 => by
    simp only [relEs] at h1
    obtain ⟨c1, c2, rfl, hl, h3, h4⟩ := h1
    simp only [List.cons_append, relEs]
    exact ⟨c1, c2 ++ cy, by simp, hl, h3, relEs_append h4 h2⟩

theorem relEs_es {es es' : Nat} {xs : List AV} {cs : List Value} (h : relEs g w es xs cs) (hs : ∀ v ∈ xs, v.size = es') : relEs g w es' xs cs := by
  cases xs with
  | nil => simpa [relEs] using h
  | cons x xs =>
    simp only [relEs] at h ⊢
    have : es = es' := by
      obtain ⟨c1, c2, _, hl, h3, _⟩ := h
      rw [← hs x (by simp), ← relC_size h3, hl]
    subst this; exact h

theorem grow_does (hI : Inv g σ w) {e : TypeId} {xs : List AV} {cells : Array Value} {css : List Value} {n cap es : Nat} (hes : relEs g w es xs css) (hpre : ∀ j, j < css.length → cells[j]? = css[j]?) (hsz : cells.size = cap * es) (hn : xs.length ≤ cap) (hcap : cap ≤ maxL)
    (toks' : List TokE) (σ' : AST) (hobjs : σ'.objs = σ.objs) (k : Nat) (hk : k ≤ g.toks.length)
    (htoks : (k = g.toks.length ∧ toks' = g.toks ++ [⟨some (w.heap.size, 0), xs.length, cap, es⟩] ∧ σ'.toks = σ.toks ++ [(xs.length, es)]) ∨
      (∃ e0, g.toks[k]? = some e0 ∧ e0.es = es ∧ e0.len < xs.length ∧ toks' = g.toks.set k ⟨some (w.heap.size, 0), xs.length, cap, es⟩ ∧ σ'.toks = σ.toks.set k (xs.length, es))) :
    ∃ g', Ev g w g' (w.drew.alloc (.cells cells e)) ∧ Inv g' σ' (w.drew.alloc (.cells cells e)) ∧ relC g' (w.drew.alloc (.cells cells e)) (.slice (.own k) xs) [.slice (some ⟨w.heap.size, 0, none⟩) xs.length cap] := by
  have hcs := relEs_size hes
  have hle : xs.length * es ≤ cells.size := by rw [hsz]; exact Nat.mul_le_mul_right _ hn
  have hfresh := lim_fresh hI
  let new : TokE := ⟨some (w.heap.size, 0), xs.length, cap, es⟩
  -- every owner, elder or new
  have getk : toks'[k]? = some new := by
    rcases htoks with ⟨rfl, rfl, _⟩ | ⟨e0, h0, _, _, rfl, _⟩
    · simp [new]
    · rw [List.getElem?_set]; simp [(List.getElem?_eq_some_iff.1 h0).1, new]
  have cases_ : ∀ (t : Nat) (q : TokE), toks'[t]? = some q → (t = k ∧ q = new) ∨ (t ≠ k ∧ g.toks[t]? = some q) := by
    intro t q hq
    by_cases e : t = k
    · subst e; rw [getk] at hq; cases hq; exact .inl ⟨rfl, rfl⟩
    · right
      refine ⟨e, ?_⟩
      rcases htoks with ⟨rfl, rfl, _⟩ | ⟨e0, h0, _, _, rfl, _⟩
      · rw [List.getElem?_append] at hq
        split at hq
        · exact hq
        · rename_i hlt
          have : t - g.toks.length ≠ 0 := by omega
          rw [List.getElem?_eq_none (by simp; omega)] at hq; cases hq
      · rw [List.getElem?_set] at hq
        rw [if_neg (fun h => e h.symm)] at hq; exact hq
  have sigk : ∀ (t : Nat), t ≠ k → ∀ q, σ.toks[t]? = some q → σ'.toks[t]? = some q := by
    intro t ht q hq
    rcases htoks with ⟨rfl, _, h⟩ | ⟨e0, h0, _, _, _, h⟩
    · rw [h]; exact getElem?_append_some hq
    · rw [h, List.getElem?_set, if_neg (fun h => ht h.symm)]; exact hq
  have sigkk : σ'.toks[k]? = some (xs.length, es) := by
    rcases htoks with ⟨rfl, _, h⟩ | ⟨e0, h0, _, _, _, h⟩
    · rw [h, ← hI.ntok]; simp
    · rw [h, List.getElem?_set]
      have : k < σ.toks.length := by rw [hI.ntok]; exact (List.getElem?_eq_some_iff.1 h0).1
      simp [this]
  have nlen : σ'.toks.length = toks'.length := by
    rcases htoks with ⟨rfl, h1, h2⟩ | ⟨e0, h0, _, _, h1, h2⟩
    · rw [h1, h2]; simp [hI.ntok]
    · rw [h1, h2]; simp [hI.ntok]
  let g' : G := { g with lim := fun b => if b = w.heap.size then some (xs.length * es) else g.lim b, toks := toks' }
  have hlim : ∀ b L, g.lim b = some L → g'.lim b = some L := by
    intro b L h
    show (if b = w.heap.size then _ else g.lim b) = _
    rw [if_neg (by rintro rfl; rw [hfresh] at h; cases h)]; exact h
  have hE : Ev g w g' (w.drew.alloc (.cells cells e)) := by
    have := ev_alloc (w := w.drew) (inv_drew hI) (.cells cells e) g.objs g'.lim toks' (fun i x h => h) hlim (by
      intro t q hq
      by_cases ek : t = k
      · subst ek
        refine ⟨new, getk, ?_⟩
        rcases htoks with ⟨rfl, _, _⟩ | ⟨e0, h0, hes0, hlt, _, _⟩
        · rw [List.getElem?_eq_none (by omega)] at hq; cases hq
        · rw [h0] at hq; cases hq
          exact ⟨hes0.symm, Nat.le_of_lt hlt, fun h => absurd h (by show xs.length ≠ _; omega), .inr fun b o hb => by
            have hb : some (w.heap.size, 0) = some (b, o) := hb
            simp only [Option.some.injEq, Prod.mk.injEq] at hb
            rw [← hb.1]; exact ⟨Nat.le_refl _, hb.2.symm⟩⟩
      · refine ⟨q, ?_, rfl, Nat.le_refl _, fun _ => rfl, .inl rfl⟩
        rcases htoks with ⟨rfl, rfl, _⟩ | ⟨e0, h0, _, _, rfl, _⟩
        · exact getElem?_append_some hq
        · rw [List.getElem?_set, if_neg (fun h => ek h.symm)]; exact hq)
    exact (ev_drew g w).trans this
  have hnew : (w.drew.alloc (.cells cells e)).heap[w.heap.size]? = some (.cells cells e) := by rw [← World.size_drew]; exact alloc_new
  have hold : ∀ b, b < w.heap.size → (w.drew.alloc (.cells cells e)).heap[b]? = w.heap[b]? := fun b hb => alloc_old (w := w.drew) (by simpa using hb)
  refine ⟨g', hE, ?_, ?_⟩
  · refine { base := Nat.le_trans hI.base hE.size, nobj := by rw [hobjs]; exact hI.nobj, obj := ?_, inj := by rw [hobjs]; exact hI.inj, rows := ?_, ntok := nlen, tok := ?_, tinj := ?_ }
    · intro j q hq hql
      rw [hobjs] at hq
      obtain ⟨b2, sh2, h2, hb2, hl2, hin2⟩ := hI.obj j q hq hql
      have hlt := objs_lt hI hq hql h2
      exact ⟨b2, sh2, h2, hb2, by show (if b2 = w.heap.size then _ else g.lim b2) = _; rw [if_neg (by omega)]; exact hl2, objIn_mono hE (hold _ hlt) hin2⟩
    · intro b L hb
      by_cases eb : b = w.heap.size
      · subst eb
        have : L = xs.length * es := by
          have h : (if w.heap.size = w.heap.size then some (xs.length * es) else g.lim w.heap.size) = some L := hb
          simp at h; exact h.symm
        subst this
        exact ⟨hI.base, cells, e, (0, 0), hnew, hle, .inl rfl⟩
      · have h : (if b = w.heap.size then some (xs.length * es) else g.lim b) = some L := hb
        rw [if_neg eb] at h
        obtain ⟨h1, c', e', fr', hc, hL⟩ := hI.rows b L h
        exact ⟨h1, c', e', fr', by rw [hold _ (lt_of_blk hc)]; exact hc, hL⟩
    · intro t q hq
      rcases cases_ t q hq with ⟨rfl, rfl⟩ | ⟨hne, hq'⟩
      · refine ⟨sigkk, hn, hcap, (fun h => by cases h), fun b o hbo hlt => ?_⟩
        simp only [new, Option.some.injEq, Prod.mk.injEq] at hbo
        obtain ⟨rfl, rfl⟩ := hbo
        exact ⟨by show (if w.heap.size = w.heap.size then _ else _) = _; simp [new], cells, e, (0, 0), hnew, by simp [new, hsz], .inl rfl⟩
      · obtain ⟨h1, h2, h3, h4, h5⟩ := hI.tok t q hq'
        refine ⟨sigk t hne _ h1, h2, h3, h4, fun b o ha hlt => ?_⟩
        obtain ⟨hl2, c', el, fr', hc, hsz', hfr⟩ := h5 b o ha hlt
        exact ⟨hlim _ _ hl2, c', el, fr', by rw [hold _ (lt_of_blk hc)]; exact hc, hsz', hfr⟩
    · intro t u q q' b o o' ht hu ha ha' hl hl'
      rcases cases_ t q ht with ⟨rfl, rfl⟩ | ⟨hne, h⟩ <;> rcases cases_ u q' hu with ⟨rfl, rfl⟩ | ⟨hne', h'⟩
      · rfl
      · obtain ⟨_, _, _, _, h5⟩ := hI.tok u q' h'
        obtain ⟨_, c', el, fr', hc, _⟩ := h5 b o' ha' hl'
        simp only [new, Option.some.injEq, Prod.mk.injEq] at ha
        have := lt_of_blk hc; omega
      · obtain ⟨_, _, _, _, h5⟩ := hI.tok t q h
        obtain ⟨_, c', el, fr', hc, _⟩ := h5 b o ha hl
        simp only [new, Option.some.injEq, Prod.mk.injEq] at ha'
        have := lt_of_blk hc; omega
      · exact hI.tinj t u q q' b o o' h h' ha ha' hl hl'
  · simp only [relC]
    refine ⟨some (mkAddr (w.heap.size, 0)), some (w.heap.size, 0), cap, es, css, rfl, .inl rfl, relEs_mono hE hes, hn, hcap, (fun h => by cases h), (fun b o hbo => .inr ?_), new, getk, Nat.le_refl _, fun _ => ⟨rfl, rfl⟩, .inr rfl⟩
    simp only [Option.some.injEq, Prod.mk.injEq] at hbo
    obtain ⟨rfl, rfl⟩ := hbo
    exact ⟨⟨cells, e, (0, 0), hnew, fun j hj => by rw [Nat.zero_add]; exact hpre j hj⟩, .inr ⟨xs.length * es, by show (if w.heap.size = w.heap.size then _ else _) = _; simp, by rw [hcs]; omega⟩⟩

end Go.Aff

namespace Go.Aff

variable {g g' : G} {w w' : World} {σ σ' : AST} {P : Program}

theorem inplace_does (hI : Inv g σ w) {k b o n c es : Nat} {ys : List AV} {cy : List Value} (hk : g.toks[k]? = some ⟨some (b, o), n, c, es⟩) (hy : relEs g w es ys cy) (hm : 0 < ys.length) (hfit : n + ys.length ≤ c)
    (h1 : ∀ v ∈ cy, v.oneCell' = true) :
    ∃ g' w', (storeCells (⟨b, o + n * es, none⟩ : Addr) cy).run P w = .ok () w' ∧ Ev g w g' w' ∧ Inv g' (σ.setTok k (n + ys.length) es) w' ∧
      (∀ xs cx, xs.length = n → relEs g w es xs cx → (cx = [] ∨ rd w b o cx) → relC g' w' (.slice (.own k) (xs ++ ys)) [.slice (some ⟨b, o, none⟩) (n + ys.length) c]) := by
  obtain ⟨hs1, hs2, hs3, hs4, hs5⟩ := hI.tok k _ hk
  obtain ⟨hlim, cur, el, fr, hc, hsz, hfr⟩ := hs5 b o rfl (by show n < c; omega)
  simp only at hlim hsz hs1
  have hcy := relEs_size hy
  have hroom : o + n * es + cy.length ≤ cur.size := by
    have : (n + ys.length) * es ≤ c * es := Nat.mul_le_mul_right _ hfit
    rw [Nat.add_mul] at this
    rw [hcy]; omega
  have hbase := (hI.rows b _ hlim).1
  have hst := run_storeCells_cells (P := P) b (o + n * es) cy 0 w (fun j hj => by simp [World.cell?, hc]; omega) (fun j hj => by
    have : ¬ (fr.1 ≤ o + n * es + 0 + j ∧ o + n * es + 0 + j < fr.2) := by omega
    simp only [World.frozen?, hc]
    simpa using this) h1
  simp only [Nat.add_zero] at hst
  rw [setCells_eq cy (o + n * es) cur w hc hroom] at hst
  let new : Array Value := (splice cur.toList (o + n * es) cy).toArray
  have hnewsz : new.size = cur.size := by
    show (splice cur.toList (o + n * es) cy).toArray.size = _
    rw [List.size_toArray, splice_length (by simpa using hroom)]; simp
  have hget : ∀ j, new[j]? = if o + n * es ≤ j ∧ j < o + n * es + cy.length then cy[j - (o + n * es)]? else cur[j]? := by
    intro j
    show (splice cur.toList (o + n * es) cy).toArray[j]? = _
    rw [List.getElem?_toArray, splice_get (by simpa using hroom)]; simp
  let e1 : TokE := ⟨some (b, o), n + ys.length, c, es⟩
  let g' : G := { g with lim := fun x => if x = b then some (o + (n + ys.length) * es) else g.lim x, toks := g.toks.set k e1 }
  have hklt : k < g.toks.length := (List.getElem?_eq_some_iff.1 hk).1
  have getk : g'.toks[k]? = some e1 := by show (g.toks.set k e1)[k]? = _; rw [List.getElem?_set]; simp [hklt]
  have geto : ∀ (t : Nat), t ≠ k → g'.toks[t]? = g.toks[t]? := by
    intro t ht
    show (g.toks.set k e1)[t]? = _
    rw [List.getElem?_set, if_neg (fun h => ht h.symm)]
  have hW : ∀ x, x ≠ b → (setBlk w b (.cells new el fr)).heap[x]? = w.heap[x]? := fun x hx => setBlk_other hx
  have hWb : (setBlk w b (.cells new el fr)).heap[b]? = some (.cells new el fr) := setBlk_same (lt_of_blk hc)
  have hL : o + n * es ≤ o + (n + ys.length) * es := by rw [Nat.add_mul]; omega
  have hE : Ev g w g' (setBlk w b (.cells new el fr)) := by
    refine ⟨rfl, rfl, rfl, by simp [setBlk], rfl, fun x hx => hW x (by omega), fun i x h => h, ?_, ?_⟩
    · intro x L hx
      by_cases ex : x = b
      · subst ex
        rw [hlim] at hx; cases hx
        refine ⟨⟨_, by show (if x = x then _ else _) = _; rw [if_pos rfl], hL⟩, fun c' e' fr' hc' => ?_⟩
        rw [hc] at hc'; cases hc'
        exact ⟨new, el, fr, hWb, fun j hj => by rw [hget, if_neg (by omega)]⟩
      · exact ⟨⟨L, by show (if x = b then _ else _) = _; rw [if_neg ex]; exact hx, Nat.le_refl _⟩, fun c' e' fr' hc' => ⟨c', e', fr', by rw [hW x ex]; exact hc', fun _ _ => rfl⟩⟩
    · intro t q hq
      by_cases et : t = k
      · subst et; rw [hk] at hq; cases hq
        exact ⟨e1, getk, rfl, by show n ≤ n + ys.length; omega, fun h => by have : n + ys.length = n := h; omega, .inl rfl⟩
      · exact ⟨q, by rw [geto t et]; exact hq, rfl, Nat.le_refl _, fun _ => rfl, .inl rfl⟩
  refine ⟨g', _, hst, hE, ?_, ?_⟩
  · refine { base := Nat.le_trans hI.base hE.size, nobj := hI.nobj, obj := ?_, inj := hI.inj, rows := ?_, ntok := by simp [AST.setTok, g', hI.ntok], tok := ?_, tinj := ?_ }
    · intro j q hq hql
      obtain ⟨b2, sh2, h2, hb2, hl2, hin2⟩ := hI.obj j q hq hql
      have hne : b2 ≠ b := by rintro rfl; rw [hlim] at hl2; cases hl2
      exact ⟨b2, sh2, h2, hb2, by show (if b2 = b then _ else _) = _; rw [if_neg hne]; exact hl2, objIn_mono hE (hW _ hne) hin2⟩
    · intro x L hx
      by_cases ex : x = b
      · subst ex
        have : L = o + (n + ys.length) * es := by
          have h : (if x = x then some (o + (n + ys.length) * es) else g.lim x) = some L := hx
          simp at h; exact h.symm
        subst this
        refine ⟨hbase, new, el, fr, hWb, ?_, by rw [hnewsz]; exact hfr⟩
        rw [hnewsz]
        have : (n + ys.length) * es ≤ c * es := Nat.mul_le_mul_right _ hfit
        omega
      · have h : (if x = b then some (o + (n + ys.length) * es) else g.lim x) = some L := hx
        rw [if_neg ex] at h
        obtain ⟨p1, c', e', fr', hc', hL'⟩ := hI.rows x L h
        exact ⟨p1, c', e', fr', by rw [hW x ex]; exact hc', hL'⟩
    · intro t q hq
      by_cases et : t = k
      · subst et
        rw [getk] at hq; cases hq
        refine ⟨by simp [AST.setTok, e1, hI.ntok, hklt], hfit, hs3, (fun h => by cases h), fun b' o' hbo hlt => ?_⟩
        simp only [e1, Option.some.injEq, Prod.mk.injEq] at hbo
        obtain ⟨rfl, rfl⟩ := hbo
        refine ⟨by show (if b = b then _ else _) = _; rw [if_pos rfl], new, el, fr, hWb, by rw [hnewsz]; exact hsz, by rw [hnewsz]; exact hfr⟩
      · rw [geto t et] at hq
        obtain ⟨p1, p2, p3, p4, p5⟩ := hI.tok t q hq
        refine ⟨by simp only [AST.setTok]; rw [List.getElem?_set, if_neg (fun h => et h.symm)]; exact p1, p2, p3, p4, fun b' o' hbo hlt => ?_⟩
        obtain ⟨l2, c', e', fr', hc', hsz', hfr'⟩ := p5 b' o' hbo hlt
        have hne : b' ≠ b := by
          rintro rfl
          exact et (hI.tinj t k q _ b' o' o hq hk hbo rfl hlt (by show n < c; omega))
        exact ⟨by show (if b' = b then _ else _) = _; rw [if_neg hne]; exact l2, c', e', fr', by rw [hW b' hne]; exact hc', hsz', hfr'⟩
    · intro t u q q' x o1 o2 ht hu ha ha' hl hl'
      have conv : ∀ (t : Nat) (q : TokE), g'.toks[t]? = some q → q.a = some (x, o1) ∨ q.a = some (x, o2) → q.len < q.cap → ∃ q0, g.toks[t]? = some q0 ∧ q0.len < q0.cap ∧ q0.a = q.a := by
        intro t q hq _ hlt
        by_cases et : t = k
        · subst et; rw [getk] at hq; cases hq; exact ⟨_, hk, by show n < c; omega, rfl⟩
        · rw [geto t et] at hq; exact ⟨q, hq, hlt, rfl⟩
      obtain ⟨q0, hq0, hlt0, ha0⟩ := conv t q ht (.inl ha) hl
      obtain ⟨q1, hq1, hlt1, ha1⟩ := conv u q' hu (.inr ha') hl'
      exact hI.tinj t u q0 q1 x o1 o2 hq0 hq1 (by rw [ha0]; exact ha) (by rw [ha1]; exact ha') hlt0 hlt1
  · intro xs cx hxl hxs hrd
    have hcx := relEs_size hxs
    rw [hxl] at hcx
    have hall := relEs_append hxs hy
    simp only [relC]
    refine ⟨some (mkAddr (b, o)), some (b, o), c, es, cx ++ cy, by simp [mkAddr, hxl], .inl rfl, relEs_mono hE hall, by simp [hxl]; omega, hs3, (fun h => by cases h), (fun b' o' hbo => .inr ?_), e1, getk, by simp [e1, hxl], fun _ => ⟨rfl, rfl⟩, .inr rfl⟩
    simp only [Option.some.injEq, Prod.mk.injEq] at hbo
    obtain ⟨rfl, rfl⟩ := hbo
    refine ⟨⟨new, el, fr, hWb, fun j hj => ?_⟩, .inr ⟨o + (n + ys.length) * es, by show (if b = b then _ else _) = _; rw [if_pos rfl], by rw [List.length_append, hcx, hcy, Nat.add_mul]; omega⟩⟩
    rw [hget]
    rw [List.length_append, hcx] at hj
    by_cases hj1 : j < n * es
    · rw [if_neg (by omega), List.getElem?_append_left (by omega)]
      rcases hrd with rfl | ⟨c', e', fr', hc', hj'⟩
      · simp at hcx; omega
      · rw [hc] at hc'; cases hc'
        exact hj' j (by omega)
    · rw [if_pos (by omega), List.getElem?_append_right (by omega), hcx]
      congr 1; omega

theorem setTok_self {k n es : Nat} (h : σ.toks[k]? = some (n, es)) : σ.setTok k n es = σ := by
  unfold AST.setTok
  have : σ.toks.set k (n, es) = σ.toks := by
    apply List.ext_getElem?
    intro j
    rw [List.getElem?_set]
    split
    · rename_i e; subst e; rw [if_pos (List.getElem?_eq_some_iff.1 h).1, h]
    · rfl
  rw [this]

theorem append_does0 (hI : Inv g σ w) {ts : Array TypeId} {ty : TypeId} {s x : AV} {S X : Value} {K : AV → AST → Prop} (hs : relV g w s S) (hx : relV g w x X) (h : appendW0 P ts s x σ K) : Does P g w (Builtin.append_ ts ty #[S, X]) K := by
  obtain ⟨t, u, e, xs, tk, ys, h0, h1, hu, rfl, hel, ⟨z, hz⟩, hys, hb47, hmaxl, htk⟩ := h
  obtain ⟨i, zv, hi, hzv, hzc, _, _⟩ := hz
  have hbytes : i.bytes = P.bytesOf e := by simp [Program.bytesOf, hi]
  have hcells : i.size = P.cellsOf e := by simp [Program.cellsOf, hi]
  obtain ⟨ad, a, c, es, css, rfl, had, hes, hc, hcm, hnone, hmem, htok⟩ := relV_slice hs
  obtain ⟨cy, hcy, hlen, hfirst, ⟨d, hd, hni⟩, _⟩ := elems_run hx hel hys
  have hcyone : ∀ v ∈ cy, v.oneCell' = true := by
    have gen : ∀ {ps : List AV} {cs : List Value} {q : Nat}, relEs g w q ps cs → ∀ v ∈ cs, v.oneCell' = true := by
      intro ps
      induction ps with
      | nil => intro cs q h; simp only [relEs] at h; subst h; simp
      | cons p ps ih =>
        intro cs q h
        simp only [relEs] at h
        obtain ⟨c1, c2, rfl, _, h3, h4⟩ := h
        intro v hv
        rcases List.mem_append.1 hv with hv | hv
        · exact relC_cell1 h3 v hv
        · exact ih h4 v hv
    exact gen hcy
  -- what stands in the old slice
  have hold : ∀ {W : World}, W.heap = w.heap → relEs g w (P.cellsOf e) xs css → (Builtin.firstCells (P.cellsOf e) xs.length (.slice ad xs.length c)).run P W = .ok css.toArray W := by
    intro W hW hes'
    have hsz := relEs_size hes'
    cases a with
    | none =>
      have hx0 : xs.length = 0 := by have := hnone rfl; omega
      have : css = [] := List.eq_nil_of_length_eq_zero (by rw [hsz, hx0]; simp)
      subst this
      rw [hx0]
      cases ad with
      | none => simp [Builtin.firstCells]
      | some ad => simp [Builtin.firstCells, loadCells, loadCellsFrom]
    | some bo =>
      obtain ⟨b, o⟩ := bo
      obtain rfl := had.some
      refine run_firstCells_some W _ _ _ _ _ css hsz fun j v hjv => ?_
      rcases hmem b o rfl with h0 | ⟨hr, _⟩
      · subst h0; simp at hjv
      · have := rd_cell hr j v hjv
        unfold World.cell? at this ⊢
        rw [hW]; exact this
  have grow : ∀ (σ1 : AST) (k : Nat) (toks' : List TokE), relEs g w (P.cellsOf e) xs css → c < xs.length + ys.length → σ1.objs = σ.objs → k ≤ g.toks.length →
      (∀ cap, cap ≤ maxL → ∃ toks', ((k = g.toks.length ∧ toks' = g.toks ++ [⟨some (w.heap.size, 0), (xs ++ ys).length, cap, P.cellsOf e⟩] ∧ σ1.toks = σ.toks ++ [((xs ++ ys).length, P.cellsOf e)]) ∨
        (∃ e0, g.toks[k]? = some e0 ∧ e0.es = P.cellsOf e ∧ e0.len < (xs ++ ys).length ∧ toks' = g.toks.set k ⟨some (w.heap.size, 0), (xs ++ ys).length, cap, P.cellsOf e⟩ ∧ σ1.toks = σ.toks.set k ((xs ++ ys).length, P.cellsOf e)))) →
      K (.slice (.own k) (xs ++ ys)) σ1 → Does P g w (Builtin.append_ ts ty #[.slice ad xs.length c, X]) K := by
    intro σ1 k _ hes' hfit hobj hk htoks hK
    have h48 : Builtin.nextslicecap (xs.length + ys.length) c * i.bytes ≤ 281474976710656 := growslice_fits hfit (by rw [hbytes]; exact hb47)
    have hrun := run_append_out (w := w) (ty := ty) (a := ad) h0 h1 hu hd hni hi hzv hlen (hfirst w.drew rfl) (hold (W := w.drew) rfl hes') hfit hmaxl h48
    have hcap := grownCap_le (w := w) (need := xs.length + ys.length) (old := c) (e := e) hmaxl
    obtain ⟨toks', ht⟩ := htoks _ hcap.2
    have hall := relEs_append hes' hcy
    have hsz := relEs_size hall
    have hzsz : zv.cells.size = P.cellsOf e := by
      have := relC_size (conc_rel g w hzc)
      have h2 : i.size = z.size := by assumption
      rw [← hcells, h2, ← this]; simp
    obtain ⟨g1, hE, hI1, hr⟩ := grow_does (e := e) (xs := xs ++ ys) (cells := css.toArray ++ cy.toArray ++ Builtin.zeroCells zv.cells (grownCap w (xs.length + ys.length) c e - (xs.length + ys.length))) (css := css ++ cy) (cap := grownCap w (xs.length + ys.length) c e) (n := 0) hI hall
      (fun j hj => by rw [← Array.getElem?_toList]; simp only [Array.toList_append]; rw [List.getElem?_append_left hj])
      (by
        rw [List.length_append, List.length_append] at hsz
        simp only [Array.size_append, List.size_toArray, Builtin.zeroCells, Array.size_map, Array.size_range, hzsz]
        rw [hsz, ← Nat.add_mul]; congr 1; omega)
      (by simpa using hcap.1) hcap.2 toks' σ1 hobj k hk ht
    refine ⟨_, _, g1, .slice (.own k) (xs ++ ys), σ1, hrun, hE, hI1, relV_of ?_ rfl, hK⟩
    simpa [Value.cells] using hr
  have hinplace_run : ∀ {w1 : World}, xs.length + ys.length ≤ c → (match ad with | some a => (storeCells (a.add (xs.length * P.cellsOf e)) cy).run P w | none => .ok () w) = .ok () w1 →
      (Builtin.append_ ts ty #[.slice ad xs.length c, X]).run P w = .ok (.slice ad (xs.length + ys.length) c) w1 := by
    intro w1 hfit hst
    rw [run_append_in (w := w) (ty := ty) (a := ad) h0 h1 hu hd hni hi hlen (hfirst w rfl) hfit]
    cases ad with
    | none => simp only at hst ⊢; cases hst; rfl
    | some bo => simp only at hst ⊢; rw [hst]; rfl
  cases tk with
  | none => exact htk.elim
  | lit => exact htk.elim
  | full =>
    obtain ⟨hsx, hK⟩ := htk
    have hes' := relEs_es hes hsx
    simp only [tkOk] at htok
    by_cases hy0 : ys = []
    · subst hy0
      have hcy0 : cy = [] := by simpa [relEs] using hcy
      subst hcy0
      have hrun := hinplace_run (w1 := w) (by simp; omega) (by cases ad <;> rfl)
      obtain ⟨hE, hI1⟩ := inv_tok hI ⟨a, xs.length, c, P.cellsOf e⟩ (by show xs.length ≤ c; omega) hcm hnone (fun b o hbo hlt => by have : xs.length < c := hlt; omega)
      refine ⟨_, w, _, .slice (.own σ.toks.length) (xs ++ []), _, hrun, hE, hI1, relV_of ?_ rfl, by simpa using hK⟩
      simp only [relC, Value.cells, List.append_nil]
      exact ⟨ad, a, c, P.cellsOf e, css, by simp, had, relEs_mono hE hes', hc, hcm, hnone, fun b o hbo => (hmem b o hbo).imp id (fun ⟨p, q⟩ => rd_mono hE p q), ⟨a, xs.length, c, P.cellsOf e⟩, by rw [hI.ntok]; simp, Nat.le_refl _, fun _ => ⟨rfl, rfl⟩, .inr rfl⟩
    · have hpos : 0 < ys.length := by cases ys with | nil => exact absurd rfl hy0 | cons y ys => simp
      refine grow (σ.tok (xs.length + ys.length) (P.cellsOf e)) σ.toks.length [] hes' (by omega) rfl (by rw [hI.ntok]; exact Nat.le_refl _) (fun cap _ => ⟨_, .inl ⟨hI.ntok, rfl, by simp [AST.tok]⟩⟩) hK
  | own k =>
    obtain ⟨hσk, hK⟩ := htk
    obtain ⟨e0, he0, hle0, heq0, hes0⟩ := htok
    obtain ⟨q1, q2, q3, q4, q5⟩ := hI.tok k e0 he0
    rw [hσk] at q1
    simp only [Option.some.injEq, Prod.mk.injEq] at q1
    obtain ⟨ql, qe⟩ := q1
    obtain ⟨ha0, hc0⟩ := heq0 ql
    have hes' : relEs g w (P.cellsOf e) xs css := by
      rcases hes0 with h | h
      · have : xs = [] := List.eq_nil_of_length_eq_zero h
        subst this; simpa [relEs] using hes
      · rw [← qe] at h; rw [← h]; exact hes
    by_cases hy0 : ys = []
    · subst hy0
      have hcy0 : cy = [] := by simpa [relEs] using hcy
      subst hcy0
      have hrun := hinplace_run (w1 := w) (by simp; omega) (by cases ad <;> rfl)
      simp only [List.length_nil, Nat.add_zero, List.append_nil] at hK hrun
      rw [setTok_self hσk] at hK
      exact Does.pure hI hrun hs hK
    · have hpos : 0 < ys.length := by cases ys with | nil => exact absurd rfl hy0 | cons y ys => simp
      by_cases hfit : xs.length + ys.length ≤ c
      · cases a with
        | none => have := hnone rfl; omega
        | some bo =>
          obtain ⟨b, o⟩ := bo
          obtain rfl := had.some
          have hk' : g.toks[k]? = some ⟨some (b, o), xs.length, c, P.cellsOf e⟩ := by
            rw [he0]; congr 1
            cases e0; simp_all
          obtain ⟨g1, w1, hst, hE, hI1, hr⟩ := inplace_does (P := P) hI hk' hcy hpos hfit hcyone
          have hrun := hinplace_run (w1 := w1) hfit (by simp only [mkAddr, mk_add]; exact hst)
          refine ⟨_, w1, g1, .slice (.own k) (xs ++ ys), _, hrun, hE, hI1, relV_of ?_ rfl, hK⟩
          have := hr xs css rfl hes' ((hmem b o rfl).imp id (fun h => h.1))
          simpa [Value.cells, mkAddr] using this
      · refine grow (σ.setTok k (xs.length + ys.length) (P.cellsOf e)) k [] hes' (by omega) rfl (Nat.le_of_lt (List.getElem?_eq_some_iff.1 he0).1) (fun cap _ => ⟨_, .inr ⟨e0, he0, qe.symm, by simp; omega, rfl, by simp [AST.setTok]⟩⟩) hK

theorem inv_pin (hI : Inv g σ w) {i l : Nat} {o o' : Obj} {vs : List AV} {xs : List Value} (hi : σ.objs[i]? = some (.pin l o vs xs)) :
    w.heap[l]? = some o ∧ Ev g w g (w.putObj l o') ∧ Inv g (σ.set i (.pin l o' vs xs)) (w.putObj l o') := by
  obtain ⟨b, sh, hg, hb, hl, rfl, ho, hr⟩ := hI.obj i _ hi rfl
  have hlt := lt_of_blk ho
  have h := inv_setObj (o' := .pin b o' vs xs) (B := o') hI hi rfl hg ⟨rfl, setBlk_same hlt, fun i v x h1 h2 => (hr i v x h1 h2).imp id fun ⟨a, b⟩ => ⟨relC_mono (ev_obj hI hb hl) a, b⟩⟩
  exact ⟨ho, h⟩
theorem inv_pin_heap (hI : Inv g σ w) {i l : Nat} {o : Obj} {vs : List AV} {xs : List Value} (hi : σ.objs[i]? = some (.pin l o vs xs)) :
    w.heap[l]? = some o ∧ ∀ (i : Nat) v x, vs[i]? = some v → xs[i]? = some x → v = .undef ∨ (relC g w v x.cells.toList ∧ v.isAgg = vAgg x) := by
  obtain ⟨b, sh, hg, hb, hl, rfl, ho, hr⟩ := hI.obj i _ hi rfl
  exact ⟨ho, hr⟩
theorem inv_pushPin (hI : Inv g σ w) {o : Obj} {vs : List AV} {xs : List Value} (h : ∀ (i : Nat) v x, vs[i]? = some v → xs[i]? = some x → v = .undef ∨ (relC g w v x.cells.toList ∧ v.isAgg = vAgg x)) :
    ∃ g', Ev g w g' (w.alloc o) ∧ Inv g' (σ.push (.pin w.heap.size o vs xs)) (w.alloc o) :=
  ⟨_, inv_push (sh := .leaf) hI fun g' hE => ⟨rfl, alloc_new, fun i v x h1 h2 => (h i v x h1 h2).imp id fun ⟨a, b⟩ => ⟨relC_mono hE a, b⟩⟩⟩

theorem relV_lit {x S : Value} (hs : relV g w (.lit x) S) : S = x := by
  rcases hs with h | ⟨_, _, h, _⟩ | ⟨h, hag⟩
  · cases h
  · cases h
  · simp only [relC] at h
    obtain ⟨h, _⟩ := h
    cases S <;> first | (cases hag; done) | (simp only [Value.cells] at h; simpa using h)
theorem appendL_does (hI : Inv g σ w) {ts : Array TypeId} {ty : TypeId} {s x : AV} {S X : Value} {K : AV → AST → Prop} (hs : relV g w s S) (hx : relV g w x X) (h : appendL P ts s x σ K) : Does P g w (Builtin.append_ ts ty #[S, X]) K := by
  obtain ⟨t, u, e, y, h0, h1, hu, hel, ⟨z, hz, hz1⟩, h⟩ := h
  obtain ⟨i, zv, hi, hzv, hzc, _, hisz⟩ := hz
  have hbytes : i.bytes = P.bytesOf e := by simp [Program.bytesOf, hi]
  have hcells : P.cellsOf e = 1 := by simp [Program.cellsOf, hi, hisz, hz1]
  have hzsz : zv.cells.size = 1 := by
    have := relC_size (conc_rel g w hzc)
    rw [hz1] at this; simpa using this
  obtain ⟨cy, hcy, hlen, hfirst, ⟨d, hd, hni⟩, _⟩ := elems_run hx hel (by intro v hv; simp at hv; subst hv; rw [hcells]; rfl)
  have hcy1 : cy = [.int .i64 y] := by
    simp only [relEs, relC] at hcy; obtain ⟨c1, c2, rfl, _, rfl, rfl⟩ := hcy; rfl
  subst hcy1
  simp only [List.length_singleton] at hlen hfirst
  cases s with
  | slice tk xs =>
    cases tk with
    | full =>
      obtain ⟨rfl, hb47, hK⟩ := h
      obtain ⟨ad, a, c, es, css, rfl, had, hes, hc, hcm, hnone, hmem, htok⟩ := relV_slice hs
      simp only [tkOk, List.length_nil] at htok
      subst htok
      have h48 : Builtin.nextslicecap (0 + 1) 0 * i.bytes ≤ 281474976710656 := growslice_fits (by omega) (by rw [hbytes]; omega)
      have ho : (Builtin.firstCells (P.cellsOf e) 0 (.slice ad 0 0)).run P w.drew = .ok (([] : List Value).toArray) w.drew := by
        cases ad with
        | none => simp [Builtin.firstCells]
        | some ad => simp [Builtin.firstCells, loadCells, loadCellsFrom]
      have hrun := run_append_out (w := w) (ty := ty) (a := ad) h0 h1 hu hd hni hi hzv hlen (hfirst w.drew rfl) ho (show 0 < 0 + 1 by omega) (by unfold maxL; omega) h48
      have hcap := grownCap_le (w := w) (need := 0 + 1) (old := 0) (e := e) (by unfold maxL; omega)
      obtain ⟨g', hE, hI'⟩ := inv_pushPin (inv_drew hI) (o := .cells (([] : List Value).toArray ++ [Value.int .i64 y].toArray ++ Builtin.zeroCells zv.cells (grownCap w (0 + 1) 0 e - (0 + 1))) e) (vs := []) (xs := []) (by intro i v x h; simp at h)
      refine ⟨_, _, g', .lit (.slice (some ⟨w.heap.size, 0, none⟩) 1 (grownCap w (0 + 1) 0 e)), _, hrun, (ev_drew g w).trans hE, hI', relV_of ?_ rfl, hK w.drew.heap.size _ _ ?_ ?_ (by omega) hcap.2⟩
      · simp [relC, Value.cells, Value.oneCell']
      · rw [Array.getElem?_append_left (by simp)]; rfl
      · simp only [Array.size_append, List.size_toArray, Builtin.zeroCells, Array.size_map, Array.size_range, hzsz, List.length_nil, List.length_singleton]; omega
    | _ => exact h.elim
  | lit X0 =>
    cases X0 with
    | slice a n c =>
      cases a with
      | none => exact h.elim
      | some a =>
        obtain ⟨i0, cs, ho0, hv0, hpin, hsz, hnc, hcm, hb47, hm, hin, hout⟩ := h
        obtain ⟨b, o, sp⟩ := a
        simp only at ho0 hv0 hpin
        subst ho0 hv0
        obtain rfl := relV_lit hs
        obtain ⟨hheap, _⟩ := inv_pin_heap hI hpin
        by_cases hfit : n < c
        · obtain ⟨_, hE, hI'⟩ := inv_pin (o' := .cells (cs.setIfInBounds n (.int .i64 y)) e) hI hpin
          have hst : (storeCells ⟨b, n, none⟩ [.int .i64 y]).run P w = .ok () (w.putObj b (.cells (cs.setIfInBounds n (.int .i64 y)) e)) := by
            have h := run_storeCells_at P b n e [Value.int .i64 y] 0 cs w hheap (by simp; omega) (by simp [Value.oneCell'])
            rw [h, setRow_eq_setBlk _ hheap]
            have e1 : (cs.toList.take (n + 0) ++ [Value.int .i64 y] ++ cs.toList.drop (n + 0 + [Value.int .i64 y].length)).toArray = cs.setIfInBounds n (.int .i64 y) := by
              apply Array.ext'
              simp only [Nat.add_zero, List.length_singleton, Array.toList_setIfInBounds]
              rw [List.set_eq_take_append_cons_drop, if_pos (by simpa using (by omega : n < cs.size))]
              simp
            rw [e1]; rfl
          have hrun := run_append_in (w := w) (ty := ty) (a := some ⟨b, 0, none⟩) (n := n) (c := c) h0 h1 hu hd hni hi hlen (hfirst w rfl) (by omega)
          have ea : (⟨b, 0, none⟩ : Addr).add (n * P.cellsOf e) = ⟨b, n, none⟩ := by rw [hcells]; simp [Addr.add]; try omega
          simp only [ea] at hrun
          rw [hst] at hrun
          exact ⟨_, _, g, .lit (.slice (some ⟨b, 0, none⟩) (n + 1) c), _, hrun, hE, hI', relV_of (by simp [relC, Value.cells, Value.oneCell']) rfl, hin hfit⟩
        · obtain rfl : n = c := by omega
          have h48 : Builtin.nextslicecap (n + 1) n * i.bytes ≤ 281474976710656 := growslice_fits (by omega) (by rw [hbytes]; exact hb47)
          have ho : (Builtin.firstCells (P.cellsOf e) n (.slice (some ⟨b, 0, none⟩) n n)).run P w.drew = .ok cs.toList.toArray w.drew := by
            refine run_firstCells_some w.drew _ _ _ _ _ cs.toList (by rw [hcells]; simp; omega) fun j v hjv => ?_
            have hr : rd w.drew b 0 cs.toList := ⟨cs, e, (0, 0), hheap, fun j _ => by rw [Nat.zero_add, Array.getElem?_toList]⟩
            have h := rd_cell hr j v hjv
            simpa [Addr.add] using h
          have hrun := run_append_out (w := w) (ty := ty) (a := some ⟨b, 0, none⟩) h0 h1 hu hd hni hi hzv hlen (hfirst w.drew rfl) ho (show n < n + 1 by omega) hm h48
          have hcap := grownCap_le (w := w) (need := n + 1) (old := n) (e := e) hm
          obtain ⟨g', hE, hI'⟩ := inv_pushPin (inv_drew hI) (o := .cells (cs.toList.toArray ++ [Value.int .i64 y].toArray ++ Builtin.zeroCells zv.cells (grownCap w (n + 1) n e - (n + 1))) e) (vs := []) (xs := []) (by intro i v x h; simp at h)
          refine ⟨_, _, g', .lit (.slice (some ⟨w.heap.size, 0, none⟩) (n + 1) (grownCap w (n + 1) n e)), _, hrun, (ev_drew g w).trans hE, hI', relV_of ?_ rfl, hout w.drew.heap.size _ _ ?_ ?_ ?_ hcap.1 hcap.2⟩
          · simp [relC, Value.cells, Value.oneCell']
          · intro j hj
            rw [Array.getElem?_append_left (by simp; omega), Array.getElem?_append_left (by simp; omega)]
          · rw [Array.getElem?_append_left (by simp; omega), Array.getElem?_append_right (by simp; omega)]
            simp [hsz]
          · simp only [Array.size_append, List.size_toArray, Builtin.zeroCells, Array.size_map, Array.size_range, hzsz, List.length_singleton, Array.length_toList]; omega
    | _ => exact h.elim
  | _ => exact h.elim

theorem append_does (hI : Inv g σ w) {ts : Array TypeId} {ty : TypeId} {s x : AV} {S X : Value} {K : AV → AST → Prop} (hs : relV g w s S) (hx : relV g w x X) (h : appendW P ts s x σ K) : Does P g w (Builtin.append_ ts ty #[S, X]) K :=
  h.elim (append_does0 hI hs hx) (appendL_does hI hs hx)

theorem appendL_mono {ts : Array TypeId} {s x : AV} {K K' : AV → AST → Prop} (hk : ∀ v σ', K v σ' → K' v σ') (h : appendL P ts s x σ K) : appendL P ts s x σ K' := by
  obtain ⟨t, u, e, y, h0, h1, h2, h3, h4, h⟩ := h
  refine ⟨t, u, e, y, h0, h1, h2, h3, h4, ?_⟩
  split at h
  · exact ⟨h.1, h.2.1, fun b c cs a1 a2 a3 a4 => hk _ _ (h.2.2 b c cs a1 a2 a3 a4)⟩
  · obtain ⟨i, cs, a1, a2, a3, a4, a5, a6, a7, a8, a9, a10⟩ := h
    exact ⟨i, cs, a1, a2, a3, a4, a5, a6, a7, a8, fun q => hk _ _ (a9 q), fun b c' cs' b1 b2 b3 b4 b5 => hk _ _ (a10 b c' cs' b1 b2 b3 b4 b5)⟩
  · exact h.elim

end Go.Aff

namespace Go.Aff

variable {g g' : G} {w w' : World} {σ σ' : AST} {P : Program}

theorem run_getObj' {W : World} {b : Nat} {me : Array MapEntry} {ck : Nat} (h : W.heap[b]? = some (.map me ck)) : (getObj b).run P W = .ok (.map me ck) W := by
  simp [getObj, Sem.run, h]
theorem run_setObj' {W : World} {b : Nat} {o : Obj} {me : Array MapEntry} {ck : Nat} (h : W.heap[b]? = some (.map me ck)) : (setObj b o).run P W = .ok () (setBlk W b o) := by
  simp [setObj, Sem.run, h, setBlk]

/-! ### Keys -/
theorem run_partV {ps : List AV} {cs : Array Value} {i o : Nat} {v : AV} {T : TypeId} (hr : relPs g w ps cs.toList) (hv : ps[i]? = some v) (ho : o = AV.sizes (ps.take i)) (ha : aggT P T = some v.isAgg) (hs : P.cellsOf T = v.size) :
    ∃ z, (∀ W, (part T cs o).run P W = .ok z W) ∧ isV g w v z := by
  subst ho
  obtain ⟨cv, hcv, hcell, hle⟩ := relPs_nth hr hv
  obtain ⟨dd, hd⟩ := agg_under ha
  have hlen := relC_size hcv
  cases hg : v.isAgg with
  | true =>
    rw [hg] at ha
    refine ⟨.agg cv.toArray, fun W => ?_, by simpa [Value.cells] using hcv, hg⟩
    have e : cs.extract (AV.sizes (ps.take i)) (AV.sizes (ps.take i) + P.cellsOf T) = cv.toArray := by
      apply Array.ext_getElem?
      intro j
      rw [Array.getElem?_extract]
      simp only [Array.length_toList] at hle
      rw [hs, ← hlen]
      split
      · rename_i hj
        have h1 := hcell j (by omega)
        simp at h1; rw [h1]; simp
      · rename_i hj
        have hj' : cv.length ≤ j := by omega
        simp [List.getElem?_eq_none hj']
    simp [part, run_isAgg' ha, run_sizeOf' hd, e]
  | false =>
    rw [hg] at ha
    obtain ⟨q, rfl⟩ := relC_scalar hcv hg
    have h1 := relC_cell1 hcv q (by simp)
    have h0 := hcell 0 (by simp)
    simp at h0
    refine ⟨q, fun W => ?_, ?_, ?_⟩
    · simp [part, run_isAgg' ha, h0]
    · rw [cells_one (vAgg_one h1)]; exact hcv
    · rw [hg, vAgg_one h1]

theorem keyOks_each : ∀ (n : Nat) {i : Nat} {fs : List Field} {xs ax : List AV} {cx : Array Value}, keyOks P n i fs xs ax = true → relPs g w ax cx.toList → xs = ax.drop i →
    ∀ f ∈ fs, f.name ≠ "_" ∧ ∃ v z m, m < n ∧ keyOk P m f.type v = true ∧ (∀ W, (part f.type cx f.offset).run P W = .ok z W) ∧ isV g w v z
  | 0, i, fs, xs, ax, cx, h, hr, e => by simp [keyOks] at h
  | n + 1, i, [], xs, ax, cx, h, hr, e => by simp
  | n + 1, i, f :: fs, [], ax, cx, h, hr, e => by simp [keyOks] at h
  | n + 1, i, f :: fs, x :: xs, ax, cx, h, hr, e => by
    simp only [keyOks, Bool.and_eq_true, decide_eq_true_eq] at h
    obtain ⟨⟨⟨h1, h2, h3, h4⟩, h5⟩, h6⟩ := h
    have hxi : ax[i]? = some x := by
      have : (ax.drop i)[0]? = some x := by rw [← e]; rfl
      simpa using this
    have ex' : xs = ax.drop (i + 1) := by
      have h0 : (ax.drop i).drop 1 = xs := by rw [← e]; rfl
      rw [← h0, List.drop_drop]
    intro y hy
    rcases List.mem_cons.1 hy with rfl | hy
    · obtain ⟨z, hz, hv⟩ := run_partV (P := P) hr hxi h2 h3 h4
      exact ⟨h1, x, z, n, by omega, h5, hz, hv⟩
    · obtain ⟨a, v, z, m, hm, r⟩ := keyOks_each n h6 hr ex' y hy
      exact ⟨a, v, z, m, by omega, r⟩

theorem scV {v : AV} {V : Value} (hv : isV g w v V) (ha : v.isAgg = false) : relC g w v [V] := by
  have := hv.2; rw [ha] at this
  have h0 := hv.1
  rw [cells_one this.symm] at h0; exact h0

theorem keyOk_run (n : Nat) : ∀ {t : TypeId} {x : AV} {X : Value}, keyOk P n t x = true → isV g w x X → ∀ emp d, n ≤ d → ∀ W, (Instr.checkKey emp d t X).run P W = .ok () W := by
  induction n using Nat.strongRecOn with
  | _ n ih =>
  intro t x X h hx emp d hd W
  cases n with
  | zero => simp [keyOk] at h
  | succ n =>
    obtain ⟨d, rfl⟩ : ∃ k, d = k + 1 := ⟨d - 1, by omega⟩
    simp only [keyOk] at h
    split at h
    · rename_i b hu
      have h1 := scV hx rfl
      simp only [relC, List.cons.injEq, and_true] at h1; subst h1
      simp [Instr.checkKey, run_underlying hu]
    · rename_i kk k a hu
      have h1 := scV hx rfl
      simp only [relC, List.cons.injEq, and_true] at h1; subst h1
      simp [Instr.checkKey, run_underlying hu]
    · rename_i a hu
      have h1 := scV hx rfl
      simp only [relC, List.cons.injEq, and_true] at h1; obtain ⟨rfl, _⟩ := h1
      simp [Instr.checkKey, run_underlying hu]
    · rename_i fs xs hu
      obtain ⟨h1, h1'⟩ := hx
      obtain ⟨cx, rfl⟩ := cells_agg h1'.symm
      simp only [relC, Value.cells] at h1
      have each := keyOks_each (g := g) (w := w) n h h1 (by simp)
      rw [Instr.checkKey]
      simp only [Sem.run_bind, run_underlying hu, Result.andThen_ok]
      rw [← Array.forIn_toList]
      clear h
      generalize fs.toList = L at each
      induction L with
      | nil => simp
      | cons f L ihL =>
        obtain ⟨hn, v, z, m, hm, hk, hz, hv⟩ := each f (by simp)
        have p2 := ih m (by omega) hk hv emp d (by omega) W
        simp only [List.forIn_cons, Sem.run_bind, hn, ne_eq, not_false_eq_true, if_true, Result.andThen_ok, hz, p2, Sem.run_pure]
        exact ihL (fun y hy => each y (by simp [hy]))
    · cases h

/-! Flat values: one reading of cells. -/
mutual
def AV.flat : AV → Bool
  | .bool _ | .int _ _ | .str _ => true
  | .agg ps => AV.flats ps
  | _ => false
def AV.flats : List AV → Bool
  | [] => true
  | p :: ps => p.flat && AV.flats ps
end
theorem keyOk_flat (n : Nat) : (∀ {t : TypeId} {x : AV}, keyOk P n t x = true → x.flat = true) ∧ (∀ {i : Nat} {fs : List Field} {xs ax : List AV}, keyOks P n i fs xs ax = true → AV.flats xs = true) := by
  induction n with
  | zero => exact ⟨fun h => by simp [keyOk] at h, fun h => by simp [keyOks] at h⟩
  | succ n ih =>
    refine ⟨fun {t x} h => ?_, fun {i fs xs ax} h => ?_⟩
    · simp only [keyOk] at h
      split at h
      · rfl
      · rfl
      · rfl
      · simp only [AV.flat]; exact ih.2 h
      · cases h
    · cases fs with
      | nil => cases xs with
        | nil => rfl
        | cons x xs => simp [keyOks] at h
      | cons f fs => cases xs with
        | nil => simp [keyOks] at h
        | cons x xs =>
          simp only [keyOks, Bool.and_eq_true] at h
          simp only [AV.flats, Bool.and_eq_true]
          exact ⟨ih.1 h.1.2, ih.2 h.2⟩

def simpleC : Value → Bool
  | .bool _ | .int _ _ | .string _ => true
  | _ => false
mutual
theorem flat_det : ∀ {x : AV} {c1 c2 : List Value}, x.flat = true → relC g w x c1 → relC g' w' x c2 → c1 = c2 ∧ ∀ c ∈ c1, simpleC c = true
  | .bool _, c1, c2, _, h1, h2 => by simp only [relC] at h1 h2; subst h1 h2; exact ⟨rfl, by simp [simpleC]⟩
  | .int _ _, c1, c2, _, h1, h2 => by simp only [relC] at h1 h2; subst h1 h2; exact ⟨rfl, by simp [simpleC]⟩
  | .str _, c1, c2, _, h1, h2 => by simp only [relC] at h1 h2; obtain ⟨rfl, _⟩ := h1; obtain ⟨rfl, _⟩ := h2; exact ⟨rfl, by simp [simpleC]⟩
  | .agg ps, c1, c2, hf, h1, h2 => by simp only [relC] at h1 h2; simp only [AV.flat] at hf; exact flats_det hf h1 h2
  | .undef, c1, c2, hf, h1, h2 | .ptr _, c1, c2, hf, h1, h2 | .slice _ _, c1, c2, hf, h1, h2 | .eptr _, c1, c2, hf, h1, h2 | .mp _, c1, c2, hf, h1, h2 | .arr _ _ _, c1, c2, hf, h1, h2 | .fn _ _ _, c1, c2, hf, h1, h2
  | .nilFn, c1, c2, hf, h1, h2 | .lit _, c1, c2, hf, h1, h2 | .dig _, c1, c2, hf, h1, h2 | .tuple _, c1, c2, hf, h1, h2 | .iface _ _, c1, c2, hf, h1, h2 | .nilIface, c1, c2, hf, h1, h2 => by simp [AV.flat] at hf
theorem flats_det : ∀ {ps : List AV} {c1 c2 : List Value}, AV.flats ps = true → relPs g w ps c1 → relPs g' w' ps c2 → c1 = c2 ∧ ∀ c ∈ c1, simpleC c = true
  | [], c1, c2, _, h1, h2 => by simp only [relPs] at h1 h2; subst h1 h2; simp
  | p :: ps, c1, c2, hf, h1, h2 => by
    simp only [relPs] at h1 h2
    simp only [AV.flats, Bool.and_eq_true] at hf
    obtain ⟨a1, a2, rfl, h3, h4⟩ := h1
    obtain ⟨b1, b2, rfl, h5, h6⟩ := h2
    obtain ⟨rfl, s1⟩ := flat_det hf.1 h3 h5
    obtain ⟨rfl, s2⟩ := flats_det hf.2 h4 h6
    exact ⟨rfl, fun c hc => (List.mem_append.1 hc).elim (s1 c) (s2 c)⟩
end
theorem simple_same {c : Value} (h : simpleC c = true) (n : Nat) : Instr.sameBits n c c = true := by
  cases c <;> simp_all [simpleC, Instr.sameBits, beq_toListBytes]
theorem same_same {x : AV} {X Y : Value} (hf : x.flat = true) (hX : isV g w x X) (hY : isV g' w' x Y) : X = Y ∧ Instr.sameBits 10000 X X = true := by
  obtain ⟨h1, h2⟩ := hX
  obtain ⟨h3, h4⟩ := hY
  obtain ⟨e, s⟩ := flat_det hf h1 h3
  cases ha : x.isAgg with
  | true =>
    rw [ha] at h2 h4
    obtain ⟨a, rfl⟩ := cells_agg h2.symm
    obtain ⟨b, rfl⟩ := cells_agg h4.symm
    simp only [Value.cells] at e s
    have : a = b := by apply Array.ext'; exact e
    subst this
    refine ⟨rfl, ?_⟩
    rw [show (10000 : Nat) = 9999 + 1 from rfl]
    simp only [Instr.sameBits, beq_self_eq_true, Bool.true_and, List.all_eq_true]
    rintro ⟨p, q⟩ hpq
    have hz : ∀ (l : List Value) (p q : Value), (p, q) ∈ l.zip l → p = q ∧ p ∈ l := by
      intro l
      induction l with
      | nil => simp
      | cons z l ih =>
        intro p q h
        simp only [List.zip_cons_cons, List.mem_cons, Prod.mk.injEq] at h
        rcases h with ⟨rfl, rfl⟩ | h
        · exact ⟨rfl, by simp⟩
        · exact ⟨(ih p q h).1, by simp [(ih p q h).2]⟩
    obtain ⟨rfl, hm⟩ := hz _ p q hpq
    exact simple_same (s p hm) 9999
  | false =>
    rw [ha] at h2 h4
    rw [cells_one h2.symm, cells_one h4.symm] at e
    rw [cells_one h2.symm] at s
    simp at e s
    exact ⟨e, simple_same s 10000⟩

theorem eqA_eq (n : Nat) : (∀ {t : TypeId} {x y : AV} {m k : Nat}, eqA P n t x y = some true → keyOk P m t x = true → keyOk P k t y = true → x = y) ∧
    (∀ {t : TypeId} {i m k : Nat} {fs : List Field} {xs ys ax ay : List AV}, eqAs P n t i fs xs ys ax ay = some true → keyOks P m i fs xs ax = true → keyOks P k i fs ys ay = true → xs = ys) := by
  induction n with
  | zero => exact ⟨fun h => by simp [eqA] at h, fun h => by simp [eqAs] at h⟩
  | succ n ih =>
    refine ⟨fun {t x y m k} h hx hy => ?_, fun {t i m k fs xs ys ax ay} h hx hy => ?_⟩
    · cases m with
      | zero => simp [keyOk] at hx
      | succ m =>
      cases k with
      | zero => simp [keyOk] at hy
      | succ k =>
      simp only [eqA] at h
      simp only [keyOk] at hx hy
      split at h
      · simp at h; rw [h]
      · split at h
        · rename_i hk; subst hk; simp at h; rw [h]
        · cases h
      · simp at h; rw [h]
      · rename_i hu
        rw [hu] at hx; simp at hx
      · rename_i hu
        rw [hu] at hx; simp at hx
      · rename_i fs xs ys hu
        simp only [hu] at hx hy
        split at h
        · rw [ih.2 h hx hy]
        · cases h
      · rename_i hu; simp [hu] at hx
      · rename_i hu; simp [hu] at hx
      · cases h
    · cases m with
      | zero => simp [keyOks] at hx
      | succ m =>
      cases k with
      | zero => simp [keyOks] at hy
      | succ k =>
      cases fs with
      | nil =>
        cases xs with
        | nil => cases ys with
          | nil => rfl
          | cons y ys => simp [keyOks] at hy
        | cons x xs => simp [keyOks] at hx
      | cons f fs =>
        cases xs with
        | nil => simp [keyOks] at hx
        | cons x xs => cases ys with
          | nil => simp [keyOks] at hy
          | cons y ys =>
            simp only [keyOks, Bool.and_eq_true] at hx hy
            simp only [eqAs] at h
            split at h
            · split at h
              · rename_i heq
                rw [ih.1 heq hx.1.2 hy.1.2, ih.2 h hx.2 hy.2]
              · simp at h
              · cases h
            · cases h
theorem eqK_true {kt : TypeId} {k k' : AV} (h : eqK P kt k k' = some true) (hk : keyOk P 40 kt k = true) : k = k' := by
  unfold eqK at h
  split at h
  · rename_i hk'; exact (eqA_eq 40).1 h hk hk'
  · cases h
theorem eqK_eqA {kt : TypeId} {k k' : AV} {b : Bool} (h : eqK P kt k k' = some b) : eqA P 40 kt k k' = some b := by
  unfold eqK at h
  split at h
  · exact h
  · cases h
end Go.Aff

