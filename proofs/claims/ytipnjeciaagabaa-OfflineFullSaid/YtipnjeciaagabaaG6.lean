import Derived.Test.YtipnjeciaagabaaG5
import Derived.Laws.IdiomCopy

set_option linter.unusedSimpArgs false
set_option linter.unusedVariables false

/- What operations do, soundly (7): conversions, slices' expressions, append. -/
namespace Go.Aff
set_option linter.unusedVariables false
set_option linter.unusedSimpArgs false

variable {g g' : G} {w w' : World} {σ σ' : AST} {P : Program}

theorem bin_does (hI : Inv g σ w) {op : BinOp} {t : TypeId} {x y : AV} {X Y : Value} {ox oy : Operand} {K : AV → AST → Prop} (hx : relV g w x X) (hy : relV g w y Y) (h : binW P op t x y (fun v => K v σ)) :
    Does P g w (do eqGuard op t ox oy X Y; binOp op t X Y) K := by
  unfold binW at h
  split at h
  · rename_i k a k' b
    obtain ⟨rfl, h⟩ := h
    obtain rfl := relV_int hx
    obtain rfl := relV_int hy
    obtain ⟨z, w1, g1, v, σ1, h1, h2⟩ := int_does hI (t := t) h
    refine ⟨z, w1, g1, v, σ1, ?_, h2⟩
    rw [Sem.run_bind]
    have : (eqGuard op t ox oy (.int k a) (.int k b)).run P w = .ok () w := by cases op <;> simp [eqGuard]
    rw [this]; exact h1
  · rename_i a b
    obtain ⟨rfl, _⟩ := relV_str hx
    obtain ⟨rfl, _⟩ := relV_str hy
    obtain ⟨z, w1, g1, v, σ1, h1, h2⟩ := str_does hI (t := t) h
    refine ⟨z, w1, g1, v, σ1, ?_, h2⟩
    rw [Sem.run_bind]
    have : (eqGuard op t ox oy (.string ⟨a.toArray⟩) (.string ⟨b.toArray⟩)).run P w = .ok () w := by cases op <;> simp [eqGuard]
    rw [this]; exact h1
  · rename_i a b
    obtain rfl := relV_bool hx
    obtain rfl := relV_bool hy
    have eqrun : ∀ r, eqA P 40 t (.bool a) (.bool b) = some r → (Op.equal t (.bool a) (.bool b)).run P w = .ok r w := fun r hr => eqA_sound 40 hr (isV_of hx rfl) (isV_of hy rfl) Op.maxDepth (by decide) w
    unfold eqW at h
    split at h
    · obtain ⟨r, hr, hK⟩ := h
      exact Does.pure hI (by simp [eqGuard, binOp, eqrun r hr]) (relV_mkBool _) hK
    · obtain ⟨r, hr, hK⟩ := h
      exact Does.pure hI (by simp [eqGuard, binOp, eqrun r hr]) (relV_mkBool _) hK
    · exact h.elim
  · rename_i a b
    have form : ∀ {a : Option (Nat × List Nat)} {X : Value}, relV g w (.ptr a) X → ∃ p, X = .pointer p := by
      intro a X hX
      cases a with
      | none => exact ⟨_, relV_nilptr hX⟩
      | some q => obtain ⟨i, p⟩ := q; obtain ⟨_, _, _, _, _, rfl⟩ := relV_ptr hX; exact ⟨_, rfl⟩
    obtain ⟨p, rfl⟩ := form hx
    obtain ⟨q, rfl⟩ := form hy
    have eqrun : ∀ r, eqA P 40 t (.ptr a) (.ptr b) = some r → (Op.equal t (.pointer p) (.pointer q)).run P w = .ok r w := fun r hr => eqA_sound 40 hr (isV_of hx rfl) (isV_of hy rfl) Op.maxDepth (by decide) w
    unfold eqW at h
    split at h
    · obtain ⟨r, hr, hK⟩ := h
      exact Does.pure hI (by simp [eqGuard, binOp, eqrun r hr]) (relV_mkBool _) hK
    · obtain ⟨r, hr, hK⟩ := h
      exact Does.pure hI (by simp [eqGuard, binOp, eqrun r hr]) (relV_mkBool _) hK
    · exact h.elim
  · rename_i a b
    obtain ⟨hg, h⟩ := h
    obtain ⟨cx, rfl, _⟩ := relV_agg hx rfl
    obtain ⟨cy, rfl, _⟩ := relV_agg hy rfl
    have eqrun : ∀ r, eqA P 40 t (.agg a) (.agg b) = some r → (Op.equalIn 10000 t (.agg cx) (.agg cy)).run P w = .ok r w := fun r hr => eqA_sound 40 hr (isV_of hx rfl) (isV_of hy rfl) 10000 (by decide) w
    unfold eqW at h
    split at h
    · obtain ⟨r, hr, hK⟩ := h
      exact Does.pure hI (by simp only [Sem.run_bind, run_eqGuard_agg w _ t ox oy cx cy hg, Result.andThen_ok, run_eql_struct, eqrun r hr]) (relV_mkBool _) hK
    · obtain ⟨r, hr, hK⟩ := h
      exact Does.pure hI (by simp only [Sem.run_bind, run_eqGuard_agg w _ t ox oy cx cy hg, Result.andThen_ok, run_neq_struct, eqrun r hr]) (relV_mkBool _) hK
    · exact h.elim
  · rename_i a b
    obtain ⟨hg, h⟩ := h
    obtain ⟨cx, rfl, _⟩ := relV_agg hx rfl
    obtain ⟨cy, rfl, _⟩ := relV_agg hy rfl
    have eqrun : ∀ r, eqA P 40 t (.dig a) (.dig b) = some r → (Op.equalIn 10000 t (.agg cx) (.agg cy)).run P w = .ok r w := fun r hr => eqA_sound 40 hr (isV_of hx rfl) (isV_of hy rfl) 10000 (by decide) w
    unfold eqW at h
    split at h
    · obtain ⟨r, hr, hK⟩ := h
      exact Does.pure hI (by simp only [Sem.run_bind, run_eqGuard_agg w _ t ox oy cx cy hg, Result.andThen_ok, run_eql_struct, eqrun r hr]) (relV_mkBool _) hK
    · obtain ⟨r, hr, hK⟩ := h
      exact Does.pure hI (by simp only [Sem.run_bind, run_eqGuard_agg w _ t ox oy cx cy hg, Result.andThen_ok, run_neq_struct, eqrun r hr]) (relV_mkBool _) hK
    · exact h.elim
  · exact h.elim

theorem un_does (hI : Inv g σ w) {op : UnOp} {x : AV} {X : Value} {K : AV → AST → Prop} (hx : relV g w x X) (h : unW op x (fun v => K v σ)) : Does P g w (Op.unary op X) K := by
  unfold unW at h
  split at h
  · obtain rfl := relV_bool hx
    exact Does.pure hI (by simp [Op.unary]) (relV_mkBool _) h
  · obtain rfl := relV_int hx
    exact Does.pure hI (by simp [Op.unary, Op.intArith]) (relV_mkInt _ _) h
  · exact h.elim

/-! ### Conversions -/

theorem grownCap_le {need old : Nat} {e : TypeId} (h : need ≤ maxL) : need ≤ grownCap w need old e ∧ grownCap w need old e ≤ maxL := by
  have e1 : grownCap w need old e = need + w.tape w.drawn (.appendCap need old e) % (2 ^ 63 - need) := rfl
  rw [e1]
  unfold maxL at *
  have : w.tape w.drawn (.appendCap need old e) % (2 ^ 63 - need) < 2 ^ 63 - need := Nat.mod_lt _ (by omega)
  omega

theorem relEs_u8s (l : List UInt8) : relEs g w 1 (u8s l) (l.map fun b => Value.int .u8 b.toNat) := by
  induction l with
  | nil => simp [u8s, relEs]
  | cons b l ih => simp only [u8s, List.map_cons, relEs]; exact ⟨[_], _, rfl, rfl, by simp [relC], ih⟩

theorem freeze_alloc (w : World) (c : Array Value) (e : TypeId) (n : Nat) : (w.alloc (.cells c e)).freeze ⟨w.heap.size, n, none⟩ 1 = w.alloc (.cells c e (n, n + 1)) := by
  unfold World.freeze
  rw [if_neg (by omega)]
  unfold World.alloc
  congr 1
  apply Array.ext_getElem?
  intro j
  simp only [Array.getElem?_modify, Array.getElem?_push]
  by_cases hj : j = w.heap.size
  · subst hj; simp
  · have hj' : ¬ w.heap.size = j := fun h => hj h.symm
    simp [hj, hj']

theorem bytesWorld_eq (w : World) (e : TypeId) (s : ByteArray) :
    Lib.bytesWorld w e s = w.drew.alloc (.cells (Lib.bytesCells w e s) e ((Lib.bytesCells w e s).size, (Lib.bytesCells w e s).size + 1)) := by
  unfold Lib.bytesWorld
  exact freeze_alloc w.drew _ _ _


theorem unU8_cells : ∀ {xs : List AV} {l : List UInt8} {cs : List Value} {es : Nat}, unU8 xs = some l → relEs g w es xs cs → xs ≠ [] → ∃ ns : List Int, cs = ns.map (Value.int .u8) ∧ ns.map (fun n => UInt8.ofNat n.toNat) = l ∧ ns.length = xs.length
  | [], l, cs, es, h, hr, hn => absurd rfl hn
  | v :: xs, l, cs, es, h, hr, _ => by
    simp only [relEs] at hr
    obtain ⟨c1, c2, rfl, hl, h1, h2⟩ := hr
    have hv : ∃ n, v = .int .u8 n := by
      cases v with
      | int k n => cases k <;> first | exact ⟨n, rfl⟩ | simp [unU8] at h
      | _ => simp [unU8] at h
    obtain ⟨n, rfl⟩ := hv
    simp only [unU8, Option.map_eq_some_iff] at h
    obtain ⟨l', hl', rfl⟩ := h
    simp only [relC] at h1; subst h1
    by_cases hne : xs = []
    · subst hne
      simp only [relEs] at h2; subst h2
      simp only [unU8, Option.some.injEq] at hl'; subst hl'
      exact ⟨[n], rfl, rfl, rfl⟩
    · obtain ⟨ns, rfl, h3, h4⟩ := unU8_cells hl' h2 hne
      exact ⟨n :: ns, rfl, by simp [h3], by simp [h4]⟩

theorem foldl_push (ns : List Int) : ∀ (r : ByteArray), ns.foldl (fun r n => r.push (UInt8.ofNat n.toNat)) r = ⟨(r.data.toList ++ ns.map (fun n => UInt8.ofNat n.toNat)).toArray⟩ := by
  induction ns with
  | nil => intro r; simp
  | cons n ns ih =>
    intro r
    simp only [List.foldl_cons, ih, List.map_cons]
    congr 1
    apply Array.ext'
    simp [ByteArray.push]

theorem unU8_length : ∀ {xs : List AV} {l : List UInt8}, unU8 xs = some l → l.length = xs.length
  | [], l, h => by simp [unU8] at h; subst h; rfl
  | v :: xs, l, h => by
    have hv : ∃ n, v = .int .u8 n := by
      cases v with
      | int k n => cases k <;> first | exact ⟨n, rfl⟩ | simp [unU8] at h
      | _ => simp [unU8] at h
    obtain ⟨n, rfl⟩ := hv
    simp only [unU8, Option.map_eq_some_iff] at h
    obtain ⟨l', hl', rfl⟩ := h
    simp [unU8_length hl']

theorem conv_does (hI : Inv g σ w) {s d : TypeId} {x : AV} {X : Value} {K : AV → AST → Prop} (hx : relV g w x X) (h : convW P s d x σ K) : Does P g w (convert s d X) K := by
  unfold convW at h
  split at h
  · rename_i k' n
    obtain ⟨k, hd, ⟨u, hu⟩, hK⟩ := h
    obtain rfl := relV_int hx
    exact Does.pure hI (by simp [convert, run_underlying hd, run_underlying hu, Conv.intToInt]) (relV_mkInt _ _) hK
  · rename_i l
    obtain ⟨rfl, hlen⟩ := relV_str hx
    rcases h with ⟨hd, hs, hK⟩ | ⟨e, hd, he, hs, hK⟩
    · exact Does.pure hI (by simp [convert, run_underlying hd, run_underlying hs]) hx hK
    · have hrun := Lib.run_convert_string_bytes w s d e ⟨l.toArray⟩ hs hd he
      have hsz : (⟨l.toArray⟩ : ByteArray).size = l.length := bytes_size l
      have hcap := grownCap_le (w := w) (need := l.length) (old := 0) (e := e) hlen
      rw [bytesWorld_eq, hsz] at hrun
      have hcs : (Lib.bytesCells w e ⟨l.toArray⟩).toList = (l.map fun b => Value.int .u8 b.toNat) ++ List.replicate (grownCap w l.length 0 e - l.length) (.int .u8 0) := by
        simp [Lib.bytesCells, hsz]
      have hsize : (Lib.bytesCells w e ⟨l.toArray⟩).size = grownCap w l.length 0 e := by
        rw [← Array.length_toList, hcs]; simp; omega
      generalize Lib.bytesCells w e ⟨l.toArray⟩ = cells at *
      obtain ⟨hE1, hI1⟩ := inv_row (c := cells) (e := e) (fr := (cells.size, cells.size + 1)) (n := l.length) (inv_drew hI) (by omega) (.inr (Nat.le_refl _))
      simp only [World.size_drew] at hE1 hI1
      obtain ⟨hE2, hI2⟩ := inv_tok hI1 ⟨some (w.heap.size, 0), l.length, grownCap w l.length 0 e, 1⟩ hcap.1 hcap.2 (fun h => by cases h) (by
        intro b o hbo hlt
        simp only [Option.some.injEq, Prod.mk.injEq] at hbo
        obtain ⟨rfl, rfl⟩ := hbo
        refine ⟨by simp [G.row], ⟨cells, e, _, by rw [← World.size_drew]; exact alloc_new, by simp; omega, .inr (by simp)⟩, ?_⟩
        intro t e' ht o' ha hlt'
        obtain ⟨_, _, _, _, h5⟩ := hI.tok t e' ht
        obtain ⟨_, c2, el2, fr2, hc2, _⟩ := h5 _ _ ha hlt'
        have := lt_of_blk hc2
        omega)
      have hEE := (ev_drew g w).trans (hE1.trans hE2)
      refine ⟨_, _, _, .slice (.own σ.toks.length) (u8s l), _, hrun, hEE, hI2, relV_of ?_ rfl, hK⟩
      simp only [relC, Value.cells]
      refine ⟨some (mkAddr (w.heap.size, 0)), some (w.heap.size, 0), grownCap w l.length 0 e, 1, l.map fun b => Value.int .u8 b.toNat, by simp [mkAddr, u8s], .inl rfl, relEs_u8s l, by simpa [u8s] using hcap.1, hcap.2, (fun h => by cases h), (fun b o hbo => .inr ?_), ?_⟩
      · simp only [Option.some.injEq, Prod.mk.injEq] at hbo
        obtain ⟨rfl, rfl⟩ := hbo
        refine ⟨⟨cells, e, _, by rw [← World.size_drew]; exact alloc_new, fun j hj => ?_⟩, .inr ⟨l.length, by simp [G.row], by simp⟩⟩
        rw [← Array.getElem?_toList, hcs, Nat.zero_add, List.getElem?_append_left hj]
      · exact ⟨⟨some (w.heap.size, 0), l.length, grownCap w l.length 0 e, 1⟩, by rw [hI.ntok]; simp [G.row], by simp [u8s], fun _ => ⟨rfl, rfl⟩, .inr rfl⟩
  · rename_i tk xs
    rcases h with ⟨e, l, hs, he, hd, hl, hK⟩ | ⟨rfl, rfl, e, hs, he, hK⟩
    · obtain ⟨ad, a, c, es, css, rfl, had, hes, hc, hcm, hnone, hmem, _⟩ := relV_slice hx
      have hll := unU8_length hl
      refine Does.pure hI (x := .string ⟨l.toArray⟩) (v := .str l) ?_ (relV_mkStr (by omega)) hK
      rw [run_convert_bytes_string w s d e _ _ _ hs he hd]
      cases a with
      | none =>
        have h0 := hnone rfl
        have : xs = [] := List.eq_nil_of_length_eq_zero (by omega)
        subst this
        simp [unU8] at hl; subst hl
        cases ad with
        | none => simp [Conv.bytesToString]; rfl
        | some ad => exact run_bytesToString (P := P) w ad 0 c [] (by simp [loadCells, loadCellsFrom])
      | some bo =>
        obtain ⟨b, o⟩ := bo
        obtain rfl := had.some
        by_cases hne : xs = []
        · subst hne
          simp [unU8] at hl; subst hl
          have := run_bytesToString (P := P) w ⟨b, o, none⟩ 0 c [] (by simp [loadCells, loadCellsFrom])
          exact this
        · obtain ⟨ns, rfl, h3, h4⟩ := unU8_cells hl hes hne
          rcases hmem b o rfl with h0 | ⟨hr, _⟩
          · simp at h0; subst h0; simp at h4; exact absurd (List.eq_nil_of_length_eq_zero h4.symm) hne
          · have hload := run_loadCells_list (P := P) w ⟨b, o, none⟩ _ (rd_cell hr)
            simp only [List.length_map, h4] at hload
            have := run_bytesToString (P := P) w ⟨b, o, none⟩ xs.length c ns hload
            simp only [mkAddr]
            rw [this, foldl_push, h3]
            rfl
    · obtain ⟨ad, a, c, es, css, rfl, had, hes, hc, hcm, hnone, hmem, htk⟩ := relV_slice hx
      obtain ⟨hcn, b, o, L, rfl, hb, hL⟩ := htk
      obtain rfl := had.some
      obtain ⟨_, cc, ce, fr, hcc, _⟩ := hI.rows b L hL
      obtain ⟨hE, hI'⟩ := inv_mark hI hb hL hcc
      have hrun : (convert s s (.slice (some (mkAddr (b, o))) xs.length c)).run P w = .ok (.slice (some (mkAddr (b, o))) xs.length c) (w.freeze ⟨b, cc.size, none⟩ 1) := by
        have hsh : w.shape? b = some (ce, cc.size) := by unfold World.shape?; rw [hcc]
        simp [convert, run_underlying hs, run_underlying he, markStringish, hsh, mkAddr]
      refine ⟨_, _, _, .slice .full xs, _, hrun, hE, hI', relV_mono hE (relV_of ?_ rfl), hK⟩
      simp only [relC, Value.cells]
      exact ⟨some (mkAddr (b, o)), some (b, o), c, es, css, rfl, .inl rfl, hes, hc, hcm, hnone, hmem, hcn⟩
  · rename_i i p n
    split at h
    · rename_i v hobj
      split at h
      · rename_i dg hat
        obtain ⟨rfl, e, hs, he, hd, hK⟩ := h
        have hsc := (relV_scalar hx rfl rfl).1
        simp only [relC, List.cons.injEq, and_true] at hsc
        obtain ⟨b, sh, o, c, hg, ho, rfl, hmc, hcm⟩ := hsc
        obtain ⟨_, _, cc, ce, hc, hr, hsv⟩ := obj_cells hI hobj hg
        obtain ⟨cu, hcu, hcell, _⟩ := at_rel hr hat (hsv ▸ ho)
        simp only [relC] at hcu
        have hrd : rd w b o cu := ⟨cc, ce, (0, 0), hc, fun j hj => by rw [← hcell j hj]; simp⟩
        have hload := run_loadCells_list (P := P) w ⟨b, o, none⟩ _ (rd_cell hrd)
        have hlen : cu.length = 32 := by rw [hcu, List.length_map, dg.h]
        rw [hlen] at hload
        have hcu2 : cu = (dg.l.map fun b => (b.toNat : Int)).map (Value.int .u8) := by rw [hcu, List.map_map]; rfl
        rw [hcu2] at hload
        refine Does.pure hI (x := .string ⟨dg.l.toArray⟩) (v := .str dg.l) ?_ (relV_mkStr (by rw [dg.h]; decide)) hK
        rw [run_convert_bytes_string w s d e _ _ _ hs he hd]
        have := run_bytesToString (P := P) w ⟨b, o, none⟩ 32 c _ hload
        rw [this, foldl_push, List.map_map]
        have e : (dg.l.map ((fun n : Int => UInt8.ofNat n.toNat) ∘ fun b => (b.toNat : Int))) = dg.l := by
          conv => rhs; rw [← List.map_id dg.l]
          apply List.map_congr_left
          intro b _
          simp
        rw [e]; rfl
      · exact h.elim
    · exact h.elim
  · exact h.elim

/-! ### Slices' expressions -/

theorem relEs_take {es : Nat} : ∀ {xs : List AV} {cs : List Value} (h : Nat), relEs g w es xs cs → relEs g w es (xs.take h) (cs.take (h * es))
  | [], cs, h, hr => by simp only [relEs] at hr; subst hr; simp [relEs]
  | x :: xs, cs, 0, hr => by simp [relEs]
  | x :: xs, cs, h + 1, hr => by
    simp only [relEs] at hr
    obtain ⟨c1, c2, rfl, hl, h1, h2⟩ := hr
    simp only [List.take_succ_cons, relEs]
    refine ⟨c1, c2.take (h * es), ?_, hl, h1, relEs_take h h2⟩
    rw [List.take_append, hl, Nat.add_mul, Nat.one_mul, List.take_of_length_le (by omega)]
    congr 2; omega

theorem relEs_drop {es : Nat} : ∀ {xs : List AV} {cs : List Value} (l : Nat), relEs g w es xs cs → relEs g w es (xs.drop l) (cs.drop (l * es))
  | [], cs, l, hr => by simp only [relEs] at hr; subst hr; simp [relEs]
  | x :: xs, cs, 0, hr => by simpa using hr
  | x :: xs, cs, l + 1, hr => by
    simp only [relEs] at hr
    obtain ⟨c1, c2, rfl, hl, h1, h2⟩ := hr
    have e0 : (c1 ++ c2).drop ((l + 1) * es) = c2.drop (l * es) := by
      have e1 : (l + 1) * es = l * es + es := by rw [Nat.add_mul, Nat.one_mul]
      rw [List.drop_append, List.drop_of_length_le (show c1.length ≤ (l + 1) * es by omega), List.nil_append, hl, e1]
      congr 1; omega
    rw [e0]
    exact relEs_drop l h2

theorem bnd_run {v : Option AV} {X : Option Value} {dflt : Nat} {K : Nat → Prop} (hv : (v = none ∧ X = none) ∨ ∃ a x, v = some a ∧ X = some x ∧ relV g w a x) (h : bndW v dflt K) :
    ∃ n, K n ∧ ((X = none ∧ n = dflt) ∨ ∃ k, X = some (.int k n)) := by
  rcases hv with ⟨rfl, rfl⟩ | ⟨a, x, rfl, rfl, hr⟩
  · exact ⟨dflt, h, .inl ⟨rfl, rfl⟩⟩
  · cases a <;> simp only [bndW] at h <;> try exact h.elim
    rename_i k n
    obtain rfl := relV_int hr
    refine ⟨n.toNat, h.2, .inr ⟨k, ?_⟩⟩
    have : ((n.toNat : Nat) : Int) = n := by omega
    rw [this]

def relO (g : G) (w : World) (v : Option AV) (X : Option Value) : Prop := (v = none ∧ X = none) ∨ ∃ a x, v = some a ∧ X = some x ∧ relV g w a x

theorem run_bound (k : IntKind) (n y : Nat) (code : BoundsCode) (h : n ≤ y) : (Instr.sliceBound (.int k n) y code).run P w = .ok n w := by
  have := run_sliceBound (P := P) w k n y code (by omega) (by omega)
  simpa using this

theorem run_bounds (b : Bool) (len cap l h m : Nat) (LO HI MX : Option Value) (h1 : l ≤ h) (h2 : h ≤ m) (h3 : m ≤ cap) (hl : (LO = none ∧ l = 0) ∨ ∃ k, LO = some (.int k l)) (hh : (HI = none ∧ h = len) ∨ ∃ k, HI = some (.int k h))
    (hm : (MX = none ∧ m = cap) ∨ (HI.isSome = true ∧ ∃ k, MX = some (.int k m))) : (Instr.sliceBounds b len cap LO HI MX).run P w = .ok (l, h, m) w := by
  rcases hm with ⟨rfl, rfl⟩ | ⟨hs, k, rfl⟩
  · rcases hh with ⟨rfl, rfl⟩ | ⟨kh, rfl⟩ <;> rcases hl with ⟨rfl, rfl⟩ | ⟨kl, rfl⟩ <;> simp [Instr.sliceBounds, run_bound, h1, h2]
  · rcases hh with ⟨rfl, rfl⟩ | ⟨kh, rfl⟩
    · simp at hs
    · rcases hl with ⟨rfl, rfl⟩ | ⟨kl, rfl⟩ <;> simp [Instr.sliceBounds, run_bound, h1, h2, h3]

theorem str_extract (s : List UInt8) (l h : Nat) : ByteArray.extract ⟨s.toArray⟩ l h = ⟨((s.take h).drop l).toArray⟩ := by
  apply ByteArray.ext
  apply Array.ext'
  rw [ByteArray.data_extract]
  simp [List.drop_take]

theorem slice_does (hI : Inv g σ w) {t : TypeId} {x : AV} {X : Value} {lo hi mx : Option AV} {LO HI MX : Option Value} {K : AV → AST → Prop} (hx : relV g w x X) (hlo : relO g w lo LO) (hhi : relO g w hi HI) (hmx : relO g w mx MX)
    (h : sliceW P t x lo hi mx (fun v => K v σ)) : Does P g w (Instr.sliceAt t X LO HI MX) K := by
  unfold sliceW at h
  split at h
  · rename_i s
    obtain ⟨hu, hm, h⟩ := h
    obtain ⟨rfl, hlen⟩ := relV_str hx
    obtain ⟨l, h, hl⟩ := bnd_run hlo h
    obtain ⟨hh, h, hr⟩ := bnd_run hhi h
    obtain ⟨h1, h2, hK⟩ := h
    have hM : MX = none := by
      rcases hmx with ⟨_, h⟩ | ⟨a, x, rfl, _⟩
      · exact h
      · simp at hm
    subst hM
    have hsz := bytes_size s
    have hb := run_bounds (P := P) (w := w) false s.length s.length l hh s.length LO HI none h1 h2 (Nat.le_refl _) hl hr (.inl ⟨rfl, rfl⟩)
    refine Does.pure hI (x := .string ⟨((s.take hh).drop l).toArray⟩) (v := .str ((s.take hh).drop l)) ?_ (relV_mkStr (by simp; omega)) hK
    simp [Instr.sliceAt, Instr.slice, run_underlying hu, hsz, hb, str_extract]
  · rename_i tk xs
    obtain ⟨e, hu, hsizes, ⟨d, hd⟩, h⟩ := h
    obtain ⟨ad, a, c, es, css, rfl, had, hes, hc, hcm, hnone, hmem, htk⟩ := relV_slice hx
    obtain ⟨l, h, hl⟩ := bnd_run hlo h
    obtain ⟨hh, h, hr⟩ := bnd_run hhi h
    obtain ⟨h1, h2, h⟩ := h
    have hes' := relEs_drop l (relEs_take hh hes)
    have hlen' : ((xs.take hh).drop l).length = hh - l := by simp; omega
    have hesz : (xs.take hh).drop l ≠ [] → es = P.cellsOf e := by
      intro hne
      obtain ⟨v, hv⟩ := List.exists_mem_of_ne_nil _ hne
      have hv' : v ∈ xs := List.mem_of_mem_take (List.mem_of_mem_drop hv)
      obtain ⟨j, hj⟩ := List.mem_iff_getElem?.1 hv'
      obtain ⟨cx, hcx, hlx, _⟩ := relEs_nth hes hj
      rw [← hsizes v hv', ← relC_size hcx, hlx]
    -- the new slice
    have main : ∀ (m : Nat) (tk' : Tk), hh ≤ m → m ≤ c → tkOk g (if m = l then a else a.map fun x => (x.1, x.2 + l * P.cellsOf e)) (hh - l) (m - l) es tk' →
        (Instr.sliceBounds true xs.length c LO HI MX).run P w = .ok (l, hh, m) w → K (.slice tk' ((xs.take hh).drop l)) σ →
        Does P g w (Instr.sliceAt t (.slice ad xs.length c) LO HI MX) K := by
      intro m tk' hm1 hm2 htk' hb hK
      refine Does.pure hI (x := .slice (if m = l then ad else ad.map (·.add (l * P.cellsOf e))) (hh - l) (m - l)) (v := .slice tk' ((xs.take hh).drop l)) ?_ (relV_of ?_ rfl) hK
      · simp only [Instr.sliceAt, Instr.slice, Sem.run_bind, run_underlying hu, Result.andThen_ok, hb, run_sizeOf' hd, Sem.run_pure]
      · simp only [relC, Value.cells]
        refine ⟨_, _, m - l, es, _, by rw [hlen'], ?_, hes', by rw [hlen']; omega, by omega, ?_, ?_, by rw [hlen']; exact htk'⟩
        · cases a with
          | none => exact .inr ⟨by split <;> rfl, by have := hnone rfl; omega⟩
          | some bo =>
            obtain rfl := had.some
            left
            split
            · rfl
            · simp [mkAddr, mk_add]
        · intro hn
          split at hn
          · omega
          · cases a with
            | none => have := hnone rfl; omega
            | some bo => simp at hn
        · intro b o hbo
          by_cases hne : (xs.take hh).drop l = []
          · left
            rw [hne] at hes'
            simpa [relEs] using hes'
          · by_cases hcss : css = []
            · left; rw [hcss]; simp
            right
            have hee := hesz hne
            have hml : m ≠ l := by
              rintro rfl
              apply hne
              apply List.eq_nil_of_length_eq_zero
              rw [hlen']; omega
            rw [if_neg hml] at hbo
            cases a with
            | none => simp at hbo
            | some bo =>
              obtain ⟨b', o'⟩ := bo
              simp only [Option.map_some, Option.some.injEq, Prod.mk.injEq] at hbo
              obtain ⟨rfl, rfl⟩ := hbo
              have hsl := relEs_size hes'
              have hsc := relEs_size hes
              rw [hlen'] at hsl
              have hle : (hh - l) * es + l * es ≤ xs.length * es := by
                rw [← Nat.add_mul]; exact Nat.mul_le_mul_right _ (by omega)
              rcases hmem b' o' rfl with h0 | ⟨⟨c', e', fr, hc', hj⟩, hb⟩
              · exact absurd h0 hcss
              · rw [← hee]
                refine ⟨⟨c', e', fr, hc', fun j hjl => ?_⟩, ?_⟩
                · rw [List.getElem?_drop, List.getElem?_take]
                  rw [hsl] at hjl
                  have h7 : hh * es = (hh - l) * es + l * es := by rw [← Nat.add_mul]; congr 1; omega
                  rw [if_pos (by omega), ← hj (l * es + j) (by omega)]
                  congr 1; omega
                · rcases hb with hb | ⟨L, hL, hLe⟩
                  · exact .inl hb
                  · exact .inr ⟨L, hL, by rw [hsl]; omega⟩
    split at h
    · rename_i hmn
      have hM : MX = none := by
        rcases hmx with ⟨_, h⟩ | ⟨a, x, h0, _⟩
        · exact h
        · cases h0
      subst hM
      have hb := run_bounds (P := P) (w := w) true xs.length c l hh c LO HI none h1 (by omega) (Nat.le_refl _) hl hr (.inl ⟨rfl, rfl⟩)
      refine main c _ (by omega) (Nat.le_refl _) ?_ hb h
      cases tk with
      | none => trivial
      | lit => trivial
      | own k => trivial
      | full =>
        simp only [tkOk] at htk
        by_cases hq : hh = xs.length
        · simp only [hq, beq_self_eq_true, subTk, tkOk]; omega
        · have hq' : (hh == xs.length) = false := by simpa using hq
          simp only [hq', subTk, tkOk]
    · rename_i km m hmm
      obtain ⟨rfl, hsome, hK⟩ := h
      have hM : ∃ k, MX = some (.int k hh) := by
        rcases hmx with ⟨h0, _⟩ | ⟨a, x, h0, rfl, hr⟩
        · cases h0
        · cases h0
          obtain rfl := relV_int hr
          exact ⟨_, rfl⟩
      obtain ⟨k, rfl⟩ := hM
      have hHI : HI.isSome = true := by
        rcases hhi with ⟨rfl, _⟩ | ⟨a, x, _, rfl, _⟩
        · simp at hsome
        · rfl
      have hb := run_bounds (P := P) (w := w) true xs.length c l hh hh LO HI (some (.int k hh)) h1 (Nat.le_refl _) (by omega) hl hr (.inr ⟨hHI, k, rfl⟩)
      exact main hh .full (Nat.le_refl _) (by omega) (by simp [tkOk]) hb hK
    · exact h.elim
  · rename_i i p
    obtain ⟨e, n, hua, hn, ⟨d, hd⟩, hm, hl, h⟩ := h
    obtain ⟨b, sh, o, hg, ho, rfl⟩ := relV_ptr hx
    obtain ⟨hh, h, hr⟩ := bnd_run hhi h
    obtain ⟨h2, hK⟩ := h
    have hM : MX = none := by
      rcases hmx with ⟨_, h⟩ | ⟨a, x, rfl, _⟩
      · exact h
      · simp at hm
    have hL : LO = none := by
      rcases hlo with ⟨_, h⟩ | ⟨a, x, rfl, _⟩
      · exact h
      · simp at hl
    subst hM; subst hL
    have hb := run_bounds (P := P) (w := w) false n n 0 hh n none HI none (Nat.zero_le _) h2 (Nat.le_refl _) (.inl ⟨rfl, rfl⟩) hr (.inl ⟨rfl, rfl⟩)
    refine Does.pure hI (x := .slice (some ⟨b, o, none⟩) hh n) (v := .arr i p hh) ?_ (relV_of ?_ rfl) hK
    · rcases hua with ⟨a, hu, hua⟩ | hu
      · simp [Instr.sliceAt, Instr.slice, run_underlying hu, run_underlying hua, asAddr, hb, run_sizeOf' hd, mk_add]
      · simp [Instr.sliceAt, Instr.slice, run_underlying hu, Instr.sureAddr, hb, run_sizeOf' hd, mk_add]
    · simp only [relC, Value.cells]
      exact ⟨b, sh, o, n, hg, ho, rfl, h2, hn⟩
  · exact h.elim

theorem copy_does (hI : Inv g σ w) {ts : Array TypeId} {ty : TypeId} {x y : AV} {X Y : Value} {K : AV → AST → Prop} (hx : relV g w x X) (hy : relV g w y Y) (h : copyW P ts x y σ K) : Does P g w (Builtin.copy_ ts ty #[X, Y]) K := by
  obtain ⟨t, e, h0, hu, hce, ⟨u, hue⟩, h⟩ := h
  split at h
  · rename_i i p n l
    split at h
    · rename_i v hobj
      split at h
      · rename_i dg hat
        obtain ⟨rfl, hl, hok, hK⟩ := h
        have hsc := (relV_scalar hx rfl rfl).1
        simp only [relC, List.cons.injEq, and_true] at hsc
        obtain ⟨b, sh, o, c, hg, ho, rfl, hmc, hcm⟩ := hsc
        obtain ⟨rfl, _⟩ := relV_str hy
        obtain ⟨_, _, cc, ce, hc, hr, hsv⟩ := obj_cells hI hobj hg
        obtain ⟨cu, hcu, hcell, hle⟩ := at_rel hr hat (hsv ▸ ho)
        have hcul := relC_size hcu
        have hsz := bytes_size l
        let z : List Value := l.map fun b => Value.int .u8 b.toNat
        have hzl : z.length = 32 := by simp [z, hl]
        have hz : relC g w (.dig ⟨l, hl⟩) z := by simp only [relC]; rfl
        have hst := run_storeCells_at P b o ce z 0 cc w hc (by rw [hzl]; simp [AV.size] at hcul; rw [hcul] at hle; simpa using hle) (relC_cell1 hz)
        have hst' : (storeCells ⟨b, o, none⟩ z).run P w = .ok () (setBlk w b (.cells (splice cc.toList o z).toArray ce)) := by
          rw [hst, setRow_eq_setBlk _ hc]; simp [splice]
        have hfirst : (Builtin.firstCells 1 32 (.string ⟨l.toArray⟩)).run P w = .ok z.toArray w := by
          simp only [Builtin.firstCells, Sem.run_pure]
          congr 1
          apply Array.ext'
          have : ByteArray.extract ⟨l.toArray⟩ 0 32 = ⟨l.toArray⟩ := by rw [str_extract]; rw [← hl]; simp
          rw [this]; simp [z]
        have hse : (sizeOf e).run P w = .ok 1 w := by rw [run_sizeOf' hue, hce]
        have hrun : (Builtin.copy_ ts ty #[.slice (some ⟨b, o, none⟩) 32 c, .string ⟨l.toArray⟩]).run P w = .ok (.int .i64 32) (setBlk w b (.cells (splice cc.toList o z).toArray ce)) := by
          have hmin : Nat.min l.length 32 = 32 := by rw [hl]; rfl
          simp only [Builtin.copy_, h0, List.getElem?_toArray, List.getElem?_cons_zero, List.getElem?_cons_succ, Sem.run_bind, run_underlying hu, Result.andThen_ok, Builtin.lenOf, Sem.run_pure, hsz, hmin, hse, hfirst, hst', goInt]
          rfl
        have hE := ev_obj (o := .cells (splice cc.toList o z).toArray ce) hI (obj_cells hI hobj hg).1 (obj_cells hI hobj hg).2.1
        have hsh : (AV.dig ⟨l, hl⟩).shape = (AV.dig dg).shape := by simp [AV.shape]
        have hin : objIn g (setBlk w b (.cells (splice cc.toList o z).toArray ce)) b sh (.cells (v.setAt p (.dig ⟨l, hl⟩))) := by
          refine ⟨_, _, setBlk_same (lt_of_blk hc), ?_, by rw [setAt_shape hat hsh hok, hsv]⟩
          have := setAt_rel hr hat (hsv ▸ ho) hz hsh hok
          simpa using relC_mono hE this
        obtain ⟨hE', hI'⟩ := inv_setObj hI hobj rfl hg hin
        exact ⟨_, _, g, .int .i64 32, _, hrun, hE', hI', relV_mkInt _ _, hK⟩
      · exact h.elim
    · exact h.elim
  · exact h.elim

end Go.Aff

