import Derived.Test.YtahhjdknfhkgcaaG13
import Derived.Test.YtahhjdknfhkgcaaG7

set_option linter.unusedSimpArgs false
set_option linter.unusedVariables false

namespace Go.Aff.L10
open Go.Proofs Go.Aff Go.Aff.L01 Classical
set_option maxRecDepth 20000
attribute [local go_sem] push_app app_app length_app cellAt_app cellAt_app0 set_app set_app0 objs_app objs_app0 List.cons_append List.nil_append List.length_cons List.length_nil List.getElem?_cons_zero List.getElem?_cons_succ List.set_cons_zero List.set_cons_succ List.length_map
attribute [-go_sem] cellAt_new
attribute [-simp] List.length_flatMap
attribute [local go_sem] Try.underlying123
attribute [local go_sem] fits3 fits5 fits9
attribute [local go_sem ↓] blockQ_exit2
attribute [local go_sem] Try.underlying43 fits43
attribute [local go_sem] L21.zt46 L21.zero46 L21.agg_leaf L21.known_leaf L21.fits46 L21.p46_4 Try.underlying84 Try.underlying22
attribute [local go_sem] sizes_tch fits_tch
attribute [local go_sem] trnPs_0 trnAt_0 trnPs_1 trnAt_1 trnPs_2 trnAt_2 trnPs_3 trnAt_3 trnPs_4 trnAt_4 Try.underlying26 fits22
open Go.Aff.L31
def rowI (l : List UInt8) (n : Nat) : List Int := l.map (fun b => (b.toNat : Int)) ++ List.replicate n 0
theorem rowI_av {l : List UInt8} {n : Nat} : u8s l ++ List.replicate n (.int .u8 0) = (rowI l n).map (AV.int .u8) := by
  simp [rowI, u8s]
theorem rowI_at {l : List UInt8} {n j : Nat} {b : UInt8} (h : l[j]? = some b) : (rowI l n)[j]? = some (b.toNat : Int) := by
  unfold rowI
  have hl := (List.getElem?_eq_some_iff.1 h).1
  rw [List.getElem?_append_left (by rw [List.length_map]; exact hl), List.getElem?_map, h]; rfl
theorem rowI_set {l : List UInt8} {n j : Nat} {b : UInt8} (h : j < l.length) : (rowI l n).set j (b.toNat : Int) = rowI (l.set j b) n := by
  unfold rowI
  rw [List.set_append_left _ _ (by rw [List.length_map]; exact h), List.map_set]
theorem rowI_len {l : List UInt8} {n : Nat} : (rowI l n).length = l.length + n := by simp [rowI]
theorem conv_row {P : Program} {σ : AST} {s d e : Nat} {l : List UInt8} {K : AV → AST → Prop} (hs : P.underlying s = some .string) (hd : P.underlying d = some (.slice e)) (he : P.underlying e = some (.int .u8))
    (hK : ∀ n : Nat, l.length + n ≤ maxL → K (.arr σ.objs.length [] l.length) (σ.push (.cells (.agg ((rowI l n).map (AV.int .u8)))))) : convW P s d (.str l) σ K := by
  refine .inr ⟨e, hd, he, hs, .inr fun n hn => ?_⟩
  rw [rowI_av]; exact hK n hn
theorem unU8_row {l : List UInt8} {n : Nat} : unU8 (((rowI l n).map (AV.int .u8)).take l.length) = some l := by
  rw [← rowI_av, List.take_left' (by simp [u8s]), unU8_u8s]
theorem conv_rowS {P : Program} {σ : AST} {s d e : Nat} {l : List UInt8} {n r m : Nat} {K : AV → AST → Prop} (hd : P.underlying d = some .string) (hs : P.underlying s = some (.slice e)) (he : P.underlying e = some (.int .u8))
    (ho : σ.objs[r]? = some (.cells (.agg ((rowI l n).map (AV.int .u8))))) (hm : m = l.length) (hK : K (.str l) σ) : convW P s d (.arr r [] m) σ K := by
  subst hm
  simp only [convW, ho]
  exact ⟨e, l, hs, he, hd, unU8_row, by rw [List.length_map, rowI_len]; omega, hK⟩
theorem sizes_map {k : IntKind} : ∀ l : List Int, AV.sizes (l.map (AV.int k)) = l.length
  | [] => rfl
  | a :: r => by simp only [List.map_cons, AV.sizes, AV.size, sizes_map r, List.length_cons]; omega
theorem indexAddr_row {P : Program} {σ : AST} {t e r m i : Nat} {k q : IntKind} {xs : List Int} {x : Int} {KV : AV → Prop} (hu : P.underlying t = some (.slice e)) (hc : P.cellsOf e = 1) (hf : fits P e (.int k x))
    (ho : σ.objs[r]? = some (.cells (.agg (xs.map (AV.int k))))) (hm : m ≤ xs.length) (hi : i < m) (hx : xs[i]? = some x) (hK : KV (.ptr (some (r, [i])))) : indexAddrW P σ t (.arr r [] m) (.int q i) KV := by
  simp only [indexAddrW, ho]
  show ∃ e, _
  refine ⟨e, hu, by rw [List.length_map]; exact hm, ?_, ?_⟩
  · rw [Int.toNat_natCast, ← List.map_take, sizes_map, List.length_take, hc]; omega
  · refine ⟨by omega, by rw [List.length_take, List.length_map]; omega, fun z hz => ?_⟩
    rw [Int.toNat_natCast, List.getElem?_take, if_pos hi, List.getElem?_map, hx] at hz
    simp at hz; subst hz
    refine ⟨hf, ?_⟩
    simpa using hK
def renB (b : UInt8) : UInt8 := if 97 ≤ b.toNat ∧ b.toNat < 122 then b + 1 else b
def renS (s : List UInt8) : List UInt8 := s.map renB
def renX (x : Leaf) : Leaf := { x with names := x.names.map renS }
def cur (z : List UInt8) (q : Nat) : List UInt8 := (z.take q).map renB ++ z.drop q
theorem cur_len {z : List UInt8} {q : Nat} : (cur z q).length = z.length := by unfold cur; simp; omega
theorem cur_at {z : List UInt8} {q : Nat} {b : UInt8} (h : z[q]? = some b) : (cur z q)[q]? = some b := by
  unfold cur
  have hl := (List.getElem?_eq_some_iff.1 h).1
  rw [List.getElem?_append_right (by simp; omega), List.getElem?_drop, List.length_map, List.length_take]
  rw [show q + (q - min q z.length) = q by omega]; exact h
theorem cur_next {z : List UInt8} {q : Nat} {b : UInt8} (h : z[q]? = some b) : (cur z q).set q (renB b) = cur z (q + 1) := by
  have hl := (List.getElem?_eq_some_iff.1 h).1
  have hb := (List.getElem?_eq_some_iff.1 h).2
  unfold cur
  rw [List.set_append_right _ _ (by simp; omega), List.length_map, List.length_take, show q - min q z.length = 0 by omega, List.drop_eq_getElem_cons hl, List.set_cons_zero, List.take_add_one, h]
  simp
theorem cur_keep {z : List UInt8} {q : Nat} {b : UInt8} (h : z[q]? = some b) (hb : renB b = b) : cur z q = cur z (q + 1) := by
  rw [← cur_next h, hb]
  have hc := cur_at h
  obtain ⟨h1, h2⟩ := List.getElem?_eq_some_iff.1 hc
  conv => lhs; rw [← List.set_getElem_self h1]
  rw [h2]
theorem cur_all {z : List UInt8} : cur z z.length = renS z := by unfold cur renS; simp
theorem cur_zero {z : List UInt8} : cur z 0 = z := by unfold cur; simp
def hasZ (x : Leaf) : Prop := ∃ s ∈ x.names, (122 : UInt8) ∈ s
instance {x : Leaf} : Decidable (hasZ x) := by unfold hasZ; infer_instance
def renL (l : List Leaf) : List Leaf := if ∃ x ∈ l, hasZ x then l else l.map renX
theorem ren_add {b : UInt8} (h : 97 ≤ b.toNat ∧ b.toNat < 122) : ((renB b).toNat : Int) = (b.toNat : Int) + 1 := by
  unfold renB
  rw [if_pos h, UInt8.toNat_add]
  have : (1 : UInt8).toNat = 1 := rfl
  rw [this]; omega
theorem size_leafs {l : List TL} : ∀ v ∈ l.map L21.leafV, v.size = 6 := by
  intro v hv; obtain ⟨x, _, rfl⟩ := List.mem_map.1 hv; simp [L21.leafV, AV.size, AV.sizes]
theorem append_leaf {a : List TL} {y : TL} {tk tk2 : Tk} {σ : AST} {K : AV → AST → Prop} (hca : canApp σ tk a.length 6) (hl : a.length ≤ 9000) (hK : K (.slice (growT σ tk) ((a ++ [y]).map L21.leafV)) (growS σ tk (a.length + 1) 6)) :
    appendW Try.prog ⟨[22, 22]⟩ (.slice tk (a.map L21.leafV)) (.slice tk2 [L21.leafV y]) σ K := by
  refine append_slice E22 rfl (by rw [List.length_map]; exact hca) (by intro v hv; simp at hv; subst hv; simp [L21.leafV, AV.size, AV.sizes]) size_leafs (by simp; omega) (by simp [maxL]; omega) ?_
  simpa using hK
section
variable {σ : AST} {K : AV → AST → Prop}
theorem renamed_c {l : List TL} {tk : Tk} (hf : FewL (l.map (·.x))) (hK : ∀ s' t' (l' : List TL), Ext σ s' → l'.map (·.x) = renL (l.map (·.x)) → K (.slice t' (l'.map L21.leafV)) s') : TCalls Try.prog 22 [.slice tk (l.map L21.leafV)] σ K := by
  obtain ⟨hl, hfx⟩ := hf
  rw [List.length_map] at hl
  have hnl : ∀ y ∈ l, y.x.names.length ≤ 80 := fun y hy => (hfx y.x (List.mem_map.2 ⟨y, hy, rfl⟩)).2.1
  have hmx : (maxL : Nat) ≤ 9223372036854775807 := by decide
  refine tcalls_walk Try.f22 _ [.tmp 2] Try.func22 rfl rfl rfl mixed (Nat.le_of_ble_eq_true rfl) rfl fun hlen => ?_
  repeat' (first | (simp -dsimp only [↓reduceIte, go_sem]) | (refine arr_intro fun _ => ?_) | (refine later_intro ⟨keeps_nil, ?_⟩) | (refine later_intro ⟨keeps_refl, ?_⟩) | (with_reducible refine keeps_go ?_ ?_; focus (first | (simp [keeps_cons, keeps_none, objs_app, objs_app0]; done) | (simp only [keeps_cons, keeps_none, objs_app0, objs_app, and_true]; first | rfl | exact ⟨rfl, rfl⟩ | exact ⟨rfl, rfl, rfl⟩))) | (with_reducible refine (And.intro (a := keeps _ _ _) ?_ ?_); focus (first | (simp [keeps_cons, keeps_none, objs_app, objs_app0]; done) | (simp only [keeps_cons, keeps_none, objs_app0, objs_app, and_true]; first | rfl | exact ⟨rfl, rfl⟩ | exact ⟨rfl, rfl, rfl⟩))) | (refine both_ways ?_ ?_) | (rw [wrap_i64 (by omega) (by omega)]) | (refine guardV_split (fun h => ?_) (fun h => ?_) <;> (try rw [h]) <;> (try simp at h) <;> (try (exfalso; omega))))
  refine awp_rounds (fun (i : Nat) τ s => ∃ (tO : Tk) (O : List TL), i ≤ l.length ∧ O.map (fun y : TL => y.x) = (l.take i).map (fun y => renX y.x) ∧ (∀ m < i, ∀ w, l[m]? = some w → ¬ hasZ w.x) ∧ Gr σ s tO O.length 6 ∧ τ 0 = .slice tk (l.map L21.leafV) ∧ τ 3 = .slice tO (O.map L21.leafV) ∧ τ 4 = .int .i64 i) (fun i => l.length - i) 0 ?_ ?_
  · refine ⟨.full, [], by omega, rfl, fun m hm => absurd hm (by omega), Gr.start, ?_, ?_, ?_⟩ <;> (try simp only [go_sem]) <;> (try rfl)
  · rintro i τ s ⟨tO, O, hi, hO, hnz, hG, t0, t3, t4⟩
    have hOl : O.length = i := by have := congrArg List.length hO; simp at this; omega
    by_cases hib : i < l.length
    · have hlt1 : (i : Int) < l.length := by omega
      have hyi : l[i]? = some l[i] := List.getElem?_eq_getElem hib
      have hyn := hnl _ (List.getElem_mem hib)
      generalize l[i] = y at hyi hyn
      have w1 : IntKind.i64.wrap ((i : Int) + 1) = (i : Int) + 1 := wrap_i64 (by omega) (by omega)
      repeat' (first | (simp -dsimp only [↓reduceIte, go_sem, t0, t3, t4, hlt1, L21.leafV]) | (refine arr_intro fun _ => ?_) | (refine later_intro ⟨keeps_nil, ?_⟩) | (refine later_intro ⟨keeps_refl, ?_⟩) | (with_reducible refine keeps_go ?_ ?_; focus (first | (simp [keeps_cons, keeps_none, objs_app, objs_app0]; done) | (simp only [keeps_cons, keeps_none, objs_app0, objs_app, and_true]; first | rfl | exact ⟨rfl, rfl⟩ | exact ⟨rfl, rfl, rfl⟩))) | (with_reducible refine (And.intro (a := keeps _ _ _) ?_ ?_); focus (first | (simp [keeps_cons, keeps_none, objs_app, objs_app0]; done) | (simp only [keeps_cons, keeps_none, objs_app0, objs_app, and_true]; first | rfl | exact ⟨rfl, rfl⟩ | exact ⟨rfl, rfl, rfl⟩))) | (refine both_ways ?_ ?_) | (rw [wrap_i64 (by omega) (by omega)]) | (refine guardV_split (fun h => ?_) (fun h => ?_) <;> (try rw [h]) <;> (try simp at h) <;> (try (exfalso; omega))) | (refine nth_get hyi ?_))
      have hG2 : Gr σ (s.app [.cells (L21.leafV y)]) tO O.length 6 := hG.app
      have hy2 : (s.app [.cells (L21.leafV y)]).objs[s.objs.length]? = some (.cells (L21.leafV y)) := objs_app0
      have hsj : σ.objs.length ≤ s.objs.length := by obtain ⟨O', T', rfl⟩ := hG.x; simp
      change awp _ _ _ _ (s.app [.cells (L21.leafV y)])
      generalize s.objs.length = j at *
      generalize s.app [.cells (L21.leafV y)] = s2 at hG2 hy2 ⊢
      refine awp_rounds (fun (k : Nat) τ s => ∃ (tN : Tk), k ≤ y.x.names.length ∧ (∀ m < k, ∀ z, y.x.names[m]? = some z → ¬ (122 : UInt8) ∈ z) ∧ Gr σ s tO O.length 6 ∧ Gr σ s tN k 1 ∧ apart tN tO ∧ s.objs[j]? = some (.cells (L21.leafV y)) ∧ τ 0 = .slice tk (l.map L21.leafV) ∧ τ 3 = .slice tO (O.map L21.leafV) ∧ τ 4 = .int .i64 i ∧ τ 5 = .ptr (some (j, [])) ∧ τ 6 = .slice tN (((y.x.names.take k).map renS).map AV.str) ∧ τ 7 = .int .i64 k) (fun k => y.x.names.length - k) 0 ?_ ?_
      · refine ⟨.full, by omega, fun m hm => absurd hm (by omega), hG2, Gr.start' hG2.x, apart_full, hy2, ?_, ?_, ?_, ?_, ?_, ?_⟩ <;> (try simp only [go_sem, t0, t3, t4]) <;> (try rfl)
      · clear t0 t3 t4 hG hG2 hy2
        rintro k τ s ⟨tN, hk, hnk, hG, hN, hap, hy2, t0, t3, t4, t5, t6, t7⟩
        have c1 := cellAt_known hy2
        by_cases hkb : k < y.x.names.length
        · have hlt2 : (k : Int) < y.x.names.length := by omega
          have hzk : y.x.names[k]? = some y.x.names[k] := List.getElem?_eq_getElem hkb
          generalize y.x.names[k] = z at hzk
          have w2 : IntKind.i64.wrap ((k : Int) + 1) = (k : Int) + 1 := wrap_i64 (by omega) (by omega)
          repeat' (first | (simp -dsimp only [↓reduceIte, go_sem, t0, t3, t4, t5, t6, t7, hlt2, c1, L21.leafV]) | (refine arr_intro fun _ => ?_) | (refine later_intro ⟨keeps_nil, ?_⟩) | (refine later_intro ⟨keeps_refl, ?_⟩) | (with_reducible refine keeps_go ?_ ?_; focus (first | (simp [keeps_cons, keeps_none, objs_app, objs_app0]; done) | (simp only [keeps_cons, keeps_none, objs_app0, objs_app, and_true]; first | rfl | exact ⟨rfl, rfl⟩ | exact ⟨rfl, rfl, rfl⟩))) | (with_reducible refine (And.intro (a := keeps _ _ _) ?_ ?_); focus (first | (simp [keeps_cons, keeps_none, objs_app, objs_app0]; done) | (simp only [keeps_cons, keeps_none, objs_app0, objs_app, and_true]; first | rfl | exact ⟨rfl, rfl⟩ | exact ⟨rfl, rfl, rfl⟩))) | (refine both_ways ?_ ?_) | (rw [wrap_i64 (by omega) (by omega)]) | (refine guardV_split (fun h => ?_) (fun h => ?_) <;> (try rw [h]) <;> (try simp at h) <;> (try (exfalso; omega))) | (refine nth_get hzk ?_) | (refine conv_row rfl rfl rfl (fun n hn => ?_)))
          have hG3 : Gr σ (s.app [.cells (.agg ((rowI z n).map (AV.int .u8)))]) tO O.length 6 := hG.app
          have hN3 : Gr σ (s.app [.cells (.agg ((rowI z n).map (AV.int .u8)))]) tN k 1 := hN.app
          have hy3 : (s.app [.cells (.agg ((rowI z n).map (AV.int .u8)))]).objs[j]? = some (.cells (L21.leafV y)) := ext_knownV (Ext.app _ _) hy2
          have hr3 : (s.app [.cells (.agg ((rowI z n).map (AV.int .u8)))]).objs[s.objs.length]? = some (.cells (.agg ((rowI z n).map (AV.int .u8)))) := objs_app0
          have hrj : s.objs.length ≠ j := fun e => by have := (List.getElem?_eq_some_iff.1 hy2).1; omega
          have hsr : σ.objs.length ≤ s.objs.length := by obtain ⟨O', T', rfl⟩ := hG.x; simp
          change awp _ _ _ _ (s.app [.cells (.agg ((rowI z n).map (AV.int .u8)))])
          generalize s.objs.length = r at *
          generalize s.app [.cells (.agg ((rowI z n).map (AV.int .u8)))] = s3 at hG3 hN3 hy3 hr3 ⊢
          refine awp_rounds (fun (q : Nat) τ s => q ≤ z.length ∧ ¬ (122 : UInt8) ∈ z.take q ∧ Gr σ s tO O.length 6 ∧ Gr σ s tN k 1 ∧ s.objs[j]? = some (.cells (L21.leafV y)) ∧ s.objs[r]? = some (.cells (.agg ((rowI (cur z q) n).map (AV.int .u8)))) ∧ τ 0 = .slice tk (l.map L21.leafV) ∧ τ 3 = .slice tO (O.map L21.leafV) ∧ τ 4 = .int .i64 i ∧ τ 5 = .ptr (some (j, [])) ∧ τ 6 = .slice tN (((y.x.names.take k).map renS).map AV.str) ∧ τ 7 = .int .i64 k ∧ τ 8 = .arr r [] z.length ∧ τ 9 = .int .i64 q) (fun q => z.length - q) 0 ?_ ?_
          · refine ⟨by omega, by simp, hG3, hN3, hy3, by rw [cur_zero]; exact hr3, ?_, ?_, ?_, ?_, ?_, ?_, ?_, ?_⟩ <;> (try simp only [go_sem, t0, t3, t4, t5, t6, t7]) <;> (try rfl)
          · clear t0 t3 t4 t5 t6 t7 hG hN hy2 c1 hG3 hN3 hy3 hr3
            rintro q τ s ⟨hq, hnq, hG, hN, hy2, hr2, t0, t3, t4, t5, t6, t7, t8, t9⟩
            have c1 := cellAt_known hy2
            by_cases hqb : q < z.length
            · have hlt3 : (q : Int) < z.length := by omega
              have hbq : z[q]? = some z[q] := List.getElem?_eq_getElem hqb
              generalize z[q] = b at hbq
              have w3 : IntKind.i64.wrap ((q : Int) + 1) = (q : Int) + 1 := wrap_i64 (by omega) (by omega)
              have hbi := rowI_at (n := n) (cur_at hbq)
              have c2 : cellAt s r [q] = some (.int .u8 (b.toNat : Int)) := cellAt_int hr2 hbi
              have hix : ∀ {KV : AV → Prop}, KV (.ptr (some (r, [q]))) → indexAddrW Try.prog s 123 (.arr r [] z.length) (.int .i64 (q : Int)) KV := fun hK => indexAddr_row rfl (by kernel_rfl) (by simp [go_sem]) hr2 (by rw [rowI_len, cur_len]; omega) hqb hbi hK
              have hnx : ¬ (122 : UInt8) = b → ¬ (122 : UInt8) ∈ z.take (q + 1) := fun h hm => by
                rw [List.take_add_one, hbq] at hm
                rcases List.mem_append.1 hm with hm | hm
                · exact hnq hm
                · simp at hm; exact h hm
              by_cases h1 : 97 ≤ b.toNat ∧ b.toNat < 122
              · have g1 : (97 : Int) ≤ (b.toNat : Int) := by omega
                have g2 : (b.toNat : Int) < 122 := by omega
                have w4 : IntKind.u8.wrap ((b.toNat : Int) + 1) = ((renB b).toNat : Int) := by rw [ren_add h1]; exact wrap_u8 (by omega) (by omega)
                repeat' (first | (simp -dsimp only [↓reduceIte, go_sem, t0, t3, t4, t5, t6, t7, t8, t9, hlt3, c2, g1, g2, w3, w4]) | (refine arr_intro fun _ => ?_) | (refine later_intro ⟨keeps_nil, ?_⟩) | (refine later_intro ⟨keeps_refl, ?_⟩) | (with_reducible refine keeps_go ?_ ?_; focus (first | (simp [keeps_cons, keeps_none, objs_app, objs_app0]; done) | (simp only [keeps_cons, keeps_none, objs_app0, objs_app, and_true]; first | rfl | exact ⟨rfl, rfl⟩ | exact ⟨rfl, rfl, rfl⟩))) | (with_reducible refine (And.intro (a := keeps _ _ _) ?_ ?_); focus (first | (simp [keeps_cons, keeps_none, objs_app, objs_app0]; done) | (simp only [keeps_cons, keeps_none, objs_app0, objs_app, and_true]; first | rfl | exact ⟨rfl, rfl⟩ | exact ⟨rfl, rfl, rfl⟩))) | (refine both_ways ?_ ?_) | (rw [wrap_i64 (by omega) (by omega)]) | (refine guardV_split (fun h => ?_) (fun h => ?_) <;> (try rw [h]) <;> (try simp at h) <;> (try (exfalso; omega))) | (refine hix ?_))
                refine storeC_int hr2 hbi (by simp [go_sem]) ?_
                have hrl := (List.getElem?_eq_some_iff.1 hr2).1
                have hql : q < (cur z q).length := by rw [cur_len]; exact hqb
                rw [rowI_set hql, cur_next hbq]
                repeat' (first | (simp -dsimp only [↓reduceIte, go_sem, t0, t3, t4, t5, t6, t7, t8, t9, w3]) | (refine arr_intro fun _ => ?_) | (refine later_intro ⟨keeps_nil, ?_⟩) | (refine later_intro ⟨keeps_refl, ?_⟩) | (with_reducible refine keeps_go ?_ ?_; focus (first | (simp [keeps_cons, keeps_none, objs_app, objs_app0]; done) | (simp only [keeps_cons, keeps_none, objs_app0, objs_app, and_true]; first | rfl | exact ⟨rfl, rfl⟩ | exact ⟨rfl, rfl, rfl⟩))) | (with_reducible refine (And.intro (a := keeps _ _ _) ?_ ?_); focus (first | (simp [keeps_cons, keeps_none, objs_app, objs_app0]; done) | (simp only [keeps_cons, keeps_none, objs_app0, objs_app, and_true]; first | rfl | exact ⟨rfl, rfl⟩ | exact ⟨rfl, rfl, rfl⟩))) | (refine both_ways ?_ ?_) | (rw [wrap_i64 (by omega) (by omega)]) | (refine guardV_split (fun h => ?_) (fun h => ?_) <;> (try rw [h]) <;> (try simp at h) <;> (try (exfalso; omega))))
                ((first | refine later_intro ⟨q + 1, by omega, ?_⟩ | refine ⟨q + 1, by omega, ?_⟩); (repeat' with_reducible apply And.intro); all_goals (first | omega | (simp only [go_sem, t0, t3, t4, t5, t6, t7, t8, t9, w3]; done) | rfl | assumption | (simp only [go_sem, t0, t3, t4, t5, t6, t7, t8, t9, w3]; rfl) | skip))
                all_goals first
                  | exact hnx (by intro e; subst e; exact absurd h1.2 (by decide))
                  | exact hG.set hsr
                  | exact hN.set hsr
                  | (rw [objs_setNV hrj]; exact hy2)
                  | exact objs_setSV hrl
                  | trace_state
              · have hrb : renB b = b := by unfold renB; rw [if_neg h1]
                rw [cur_keep hbq hrb] at hr2
                have hcs : ¬ (97 : Int) ≤ (b.toNat : Int) ∨ ((97 : Int) ≤ (b.toNat : Int) ∧ ¬ (b.toNat : Int) < 122) := by omega
                by_cases h2 : b = 122
                · subst h2
                  have g1 : (97 : Int) ≤ (((122 : UInt8).toNat : Nat) : Int) := by decide
                  have g2 : ¬ (((122 : UInt8).toNat : Nat) : Int) < 122 := by decide
                  have g3 : ((((122 : UInt8).toNat : Nat) : Int) == 122) = true := by decide
                  repeat' (first | (simp -dsimp only [↓reduceIte, go_sem, t0, t3, t4, t5, t6, t7, t8, t9, hlt3, c2, g1, g2, g3]) | (refine arr_intro fun _ => ?_) | (refine later_intro ⟨keeps_nil, ?_⟩) | (refine later_intro ⟨keeps_refl, ?_⟩) | (with_reducible refine keeps_go ?_ ?_; focus (first | (simp [keeps_cons, keeps_none, objs_app, objs_app0]; done) | (simp only [keeps_cons, keeps_none, objs_app0, objs_app, and_true]; first | rfl | exact ⟨rfl, rfl⟩ | exact ⟨rfl, rfl, rfl⟩))) | (with_reducible refine (And.intro (a := keeps _ _ _) ?_ ?_); focus (first | (simp [keeps_cons, keeps_none, objs_app, objs_app0]; done) | (simp only [keeps_cons, keeps_none, objs_app0, objs_app, and_true]; first | rfl | exact ⟨rfl, rfl⟩ | exact ⟨rfl, rfl, rfl⟩))) | (refine both_ways ?_ ?_) | (rw [wrap_i64 (by omega) (by omega)]) | (refine guardV_split (fun h => ?_) (fun h => ?_) <;> (try rw [h]) <;> (try simp at h) <;> (try (exfalso; omega))) | (refine hix ?_))
                  refine hK _ _ l hG.x ?_
                  unfold renL
                  rw [if_pos ⟨y.x, List.mem_map.2 ⟨y, List.mem_of_getElem? hyi, rfl⟩, z, List.mem_of_getElem? hzk, List.mem_of_getElem? hbq⟩]
                · have g3 : (((b.toNat : Nat) : Int) == 122) = false := by
                    simp only [beq_eq_false_iff_ne, ne_eq]
                    intro e
                    exact h2 (UInt8.toNat_inj.1 (by have : (122 : UInt8).toNat = 122 := rfl; omega))
                  rcases hcs with g1 | ⟨g1, g2⟩
                  · repeat' (first | (simp -dsimp only [↓reduceIte, go_sem, t0, t3, t4, t5, t6, t7, t8, t9, hlt3, c2, g1, g3, w3]) | (refine arr_intro fun _ => ?_) | (refine later_intro ⟨keeps_nil, ?_⟩) | (refine later_intro ⟨keeps_refl, ?_⟩) | (with_reducible refine keeps_go ?_ ?_; focus (first | (simp [keeps_cons, keeps_none, objs_app, objs_app0]; done) | (simp only [keeps_cons, keeps_none, objs_app0, objs_app, and_true]; first | rfl | exact ⟨rfl, rfl⟩ | exact ⟨rfl, rfl, rfl⟩))) | (with_reducible refine (And.intro (a := keeps _ _ _) ?_ ?_); focus (first | (simp [keeps_cons, keeps_none, objs_app, objs_app0]; done) | (simp only [keeps_cons, keeps_none, objs_app0, objs_app, and_true]; first | rfl | exact ⟨rfl, rfl⟩ | exact ⟨rfl, rfl, rfl⟩))) | (refine both_ways ?_ ?_) | (rw [wrap_i64 (by omega) (by omega)]) | (refine guardV_split (fun h => ?_) (fun h => ?_) <;> (try rw [h]) <;> (try simp at h) <;> (try (exfalso; omega))) | (refine hix ?_))
                    ((first | refine later_intro ⟨q + 1, by omega, ?_⟩ | refine ⟨q + 1, by omega, ?_⟩); (repeat' with_reducible apply And.intro); all_goals (first | omega | (simp only [go_sem, t0, t3, t4, t5, t6, t7, t8, t9, w3]; done) | rfl | assumption | (simp only [go_sem, t0, t3, t4, t5, t6, t7, t8, t9, w3]; rfl) | skip))
                    all_goals first
                      | exact hnx (fun e => h2 e.symm)
                      | trace_state
                  · repeat' (first | (simp -dsimp only [↓reduceIte, go_sem, t0, t3, t4, t5, t6, t7, t8, t9, hlt3, c2, g1, g2, g3, w3]) | (refine arr_intro fun _ => ?_) | (refine later_intro ⟨keeps_nil, ?_⟩) | (refine later_intro ⟨keeps_refl, ?_⟩) | (with_reducible refine keeps_go ?_ ?_; focus (first | (simp [keeps_cons, keeps_none, objs_app, objs_app0]; done) | (simp only [keeps_cons, keeps_none, objs_app0, objs_app, and_true]; first | rfl | exact ⟨rfl, rfl⟩ | exact ⟨rfl, rfl, rfl⟩))) | (with_reducible refine (And.intro (a := keeps _ _ _) ?_ ?_); focus (first | (simp [keeps_cons, keeps_none, objs_app, objs_app0]; done) | (simp only [keeps_cons, keeps_none, objs_app0, objs_app, and_true]; first | rfl | exact ⟨rfl, rfl⟩ | exact ⟨rfl, rfl, rfl⟩))) | (refine both_ways ?_ ?_) | (rw [wrap_i64 (by omega) (by omega)]) | (refine guardV_split (fun h => ?_) (fun h => ?_) <;> (try rw [h]) <;> (try simp at h) <;> (try (exfalso; omega))) | (refine hix ?_))
                    ((first | refine later_intro ⟨q + 1, by omega, ?_⟩ | refine ⟨q + 1, by omega, ?_⟩); (repeat' with_reducible apply And.intro); all_goals (first | omega | (simp only [go_sem, t0, t3, t4, t5, t6, t7, t8, t9, w3]; done) | rfl | assumption | (simp only [go_sem, t0, t3, t4, t5, t6, t7, t8, t9, w3]; rfl) | skip))
                    all_goals first
                      | exact hnx (fun e => h2 e.symm)
                      | trace_state
            · obtain rfl : q = z.length := by omega
              have hlt3 : ¬ ((z.length : Nat) : Int) < z.length := by omega
              rw [List.take_length] at hnq
              rw [cur_all] at hr2
              have hzl : z.length = (renS z).length := by simp [renS]
              have hcv : ∀ {K : AV → AST → Prop}, K (.str (renS z)) s → convW Try.prog 123 9 (.arr r [] z.length) s K := fun hK => conv_rowS rfl rfl rfl hr2 hzl hK
              have hnl2 : ((y.x.names.take k).map renS).length = k := by simp; omega
              repeat' (first | (simp -dsimp only [↓reduceIte, go_sem, t0, t3, t4, t5, t6, t7, t8, t9, hlt3]) | (refine arr_intro fun _ => ?_) | (refine later_intro ⟨keeps_nil, ?_⟩) | (refine later_intro ⟨keeps_refl, ?_⟩) | (with_reducible refine keeps_go ?_ ?_; focus (first | (simp [keeps_cons, keeps_none, objs_app, objs_app0]; done) | (simp only [keeps_cons, keeps_none, objs_app0, objs_app, and_true]; first | rfl | exact ⟨rfl, rfl⟩ | exact ⟨rfl, rfl, rfl⟩))) | (with_reducible refine (And.intro (a := keeps _ _ _) ?_ ?_); focus (first | (simp [keeps_cons, keeps_none, objs_app, objs_app0]; done) | (simp only [keeps_cons, keeps_none, objs_app0, objs_app, and_true]; first | rfl | exact ⟨rfl, rfl⟩ | exact ⟨rfl, rfl, rfl⟩))) | (refine both_ways ?_ ?_) | (rw [wrap_i64 (by omega) (by omega)]) | (refine guardV_split (fun h => ?_) (fun h => ?_) <;> (try rw [h]) <;> (try simp at h) <;> (try (exfalso; omega))) | (refine hcv ?_) | (refine build_slice L21.E29 rfl (by decide) (by intro v hv; simp at hv; try (subst hv; simp [go_sem])) ?_))
              refine append_str1 (by rw [hnl2]; exact hN.c) (by omega) ?_
              rw [hnl2]
              have og : ∀ (a : AST) m e (t : Tk), (growS a t m e).objs = a.objs := fun a m e t => growS_objs
              have e5 : (y.x.names.take k).map renS ++ [renS z] = (y.x.names.take (k + 1)).map renS := by rw [List.take_add_one, hzk, List.map_append]; rfl
              rw [e5]
              repeat' (first | (simp -dsimp only [↓reduceIte, go_sem, t0, t3, t4, t5, t6, t7, t8, t9, w2]) | (refine arr_intro fun _ => ?_) | (refine later_intro ⟨keeps_nil, ?_⟩) | (refine later_intro ⟨keeps_refl, ?_⟩) | (with_reducible refine keeps_go ?_ ?_; focus (first | (simp [keeps_cons, keeps_none, objs_app, objs_app0]; done) | (simp only [keeps_cons, keeps_none, objs_app0, objs_app, and_true]; first | rfl | exact ⟨rfl, rfl⟩ | exact ⟨rfl, rfl, rfl⟩))) | (with_reducible refine (And.intro (a := keeps _ _ _) ?_ ?_); focus (first | (simp [keeps_cons, keeps_none, objs_app, objs_app0]; done) | (simp only [keeps_cons, keeps_none, objs_app0, objs_app, and_true]; first | rfl | exact ⟨rfl, rfl⟩ | exact ⟨rfl, rfl, rfl⟩))) | (refine both_ways ?_ ?_) | (rw [wrap_i64 (by omega) (by omega)]) | (refine guardV_split (fun h => ?_) (fun h => ?_) <;> (try rw [h]) <;> (try simp at h) <;> (try (exfalso; omega))))
              ((first | refine later_intro ⟨k + 1, by omega, growT s tN, ?_⟩ | refine ⟨k + 1, by omega, growT s tN, ?_⟩); (repeat' with_reducible apply And.intro); all_goals (first | omega | (simp only [go_sem, t0, t3, t4, t5, t6, t7, t8, t9, w2]; done) | rfl | assumption | (simp only [go_sem, t0, t3, t4, t5, t6, t7, t8, t9, w2]; rfl) | skip))
              all_goals first
                | (intro m hm z' hz'
                   by_cases e : m = k
                   · subst e; rw [hzk] at hz'; cases hz'; exact hnq
                   · exact hnk m (by omega) z' hz')
                | exact ⟨hG.x.grow hN.t, hG.t, canApp_apart hap hG.c⟩
                | exact hN.grow
                | exact apart_grow hap hG.c
                | (rw [og]; exact hy2)
                | trace_state
        · obtain rfl : k = y.x.names.length := by omega
          have hlt2 : ¬ ((y.x.names.length : Nat) : Int) < y.x.names.length := by omega
          rw [List.take_length] at t6
          have cs : ∀ v p, cellAt (s.set j (.cells v)) j p = v.at p := fun v => cellAt_known (objs_setSV (List.getElem?_eq_some_iff.1 hy2).1)
          repeat' (first | (simp -dsimp only [↓reduceIte, go_sem, t0, t3, t4, t5, t6, t7, hlt2, w1, c1, hy2, cs, L21.leafV]) | (refine arr_intro fun _ => ?_) | (refine later_intro ⟨keeps_nil, ?_⟩) | (refine later_intro ⟨keeps_refl, ?_⟩) | (with_reducible refine keeps_go ?_ ?_; focus (first | (simp [keeps_cons, keeps_none, objs_app, objs_app0]; done) | (simp only [keeps_cons, keeps_none, objs_app0, objs_app, and_true]; first | rfl | exact ⟨rfl, rfl⟩ | exact ⟨rfl, rfl, rfl⟩))) | (with_reducible refine (And.intro (a := keeps _ _ _) ?_ ?_); focus (first | (simp [keeps_cons, keeps_none, objs_app, objs_app0]; done) | (simp only [keeps_cons, keeps_none, objs_app0, objs_app, and_true]; first | rfl | exact ⟨rfl, rfl⟩ | exact ⟨rfl, rfl, rfl⟩))) | (refine both_ways ?_ ?_) | (rw [wrap_i64 (by omega) (by omega)]) | (refine guardV_split (fun h => ?_) (fun h => ?_) <;> (try rw [h]) <;> (try simp at h) <;> (try (exfalso; omega))))
          have hGs := hG.set (o := .cells (L21.leafV ⟨renX y.x, y.t1, tN, y.t3⟩)) hsj
          refine build_slice E22 rfl (by decide) (by intro v hv; simp at hv; subst hv; simp [go_sem]) ?_
          refine append_leaf (y := ⟨renX y.x, y.t1, tN, y.t3⟩) hGs.c (by omega) ?_
          repeat' (first | (simp -dsimp only [↓reduceIte, go_sem, t0, t3, t4, t5, t6, t7, w1]) | (refine arr_intro fun _ => ?_) | (refine later_intro ⟨keeps_nil, ?_⟩) | (refine later_intro ⟨keeps_refl, ?_⟩) | (with_reducible refine keeps_go ?_ ?_; focus (first | (simp [keeps_cons, keeps_none, objs_app, objs_app0]; done) | (simp only [keeps_cons, keeps_none, objs_app0, objs_app, and_true]; first | rfl | exact ⟨rfl, rfl⟩ | exact ⟨rfl, rfl, rfl⟩))) | (with_reducible refine (And.intro (a := keeps _ _ _) ?_ ?_); focus (first | (simp [keeps_cons, keeps_none, objs_app, objs_app0]; done) | (simp only [keeps_cons, keeps_none, objs_app0, objs_app, and_true]; first | rfl | exact ⟨rfl, rfl⟩ | exact ⟨rfl, rfl, rfl⟩))) | (refine both_ways ?_ ?_) | (rw [wrap_i64 (by omega) (by omega)]) | (refine guardV_split (fun h => ?_) (fun h => ?_) <;> (try rw [h]) <;> (try simp at h) <;> (try (exfalso; omega))))
          refine later_intro ⟨i + 1, by omega, growT s tO, O ++ [⟨renX y.x, y.t1, tN, y.t3⟩], by omega, ?_, ?_, ?_, ?_, ?_, ?_⟩
          · rw [List.map_append, hO, List.take_add_one, hyi, List.map_append]; rfl
          · intro m hm w hw
            by_cases e : m = i
            · subst e; rw [hyi] at hw; cases hw
              rintro ⟨z, hz, hz2⟩
              obtain ⟨q, hq⟩ := List.mem_iff_getElem?.1 hz
              exact hnk q (List.getElem?_eq_some_iff.1 hq).1 z hq hz2
            · exact hnz m (by omega) w hw
          · rw [List.length_append]; exact hGs.grow
          all_goals first | (simp only [go_sem, t0, t3, t4, t5, t6, t7, w1]; done) | (simp only [go_sem, t0, t3, t4, t5, t6, t7, w1]; rfl) | trace_state
    · obtain rfl : i = l.length := by omega
      have hlt1 : ¬ ((l.length : Nat) : Int) < l.length := by omega
      rw [List.take_length] at hO
      repeat' (first | (simp -dsimp only [↓reduceIte, go_sem, t0, t3, t4, hlt1]) | (refine arr_intro fun _ => ?_) | (refine later_intro ⟨keeps_nil, ?_⟩) | (refine later_intro ⟨keeps_refl, ?_⟩) | (with_reducible refine keeps_go ?_ ?_; focus (first | (simp [keeps_cons, keeps_none, objs_app, objs_app0]; done) | (simp only [keeps_cons, keeps_none, objs_app0, objs_app, and_true]; first | rfl | exact ⟨rfl, rfl⟩ | exact ⟨rfl, rfl, rfl⟩))) | (with_reducible refine (And.intro (a := keeps _ _ _) ?_ ?_); focus (first | (simp [keeps_cons, keeps_none, objs_app, objs_app0]; done) | (simp only [keeps_cons, keeps_none, objs_app0, objs_app, and_true]; first | rfl | exact ⟨rfl, rfl⟩ | exact ⟨rfl, rfl, rfl⟩))) | (refine both_ways ?_ ?_) | (rw [wrap_i64 (by omega) (by omega)]) | (refine guardV_split (fun h => ?_) (fun h => ?_) <;> (try rw [h]) <;> (try simp at h) <;> (try (exfalso; omega))))
      refine hK _ _ O hG.x ?_
      unfold renL
      rw [if_neg, hO, List.map_map]; rfl
      rintro ⟨x, hx, hz⟩
      obtain ⟨w, hw, rfl⟩ := List.mem_map.1 hx
      obtain ⟨m, hm⟩ := List.mem_iff_getElem?.1 hw
      exact hnz m (List.getElem?_eq_some_iff.1 hm).1 w hm hz
end
def NoZ (s : List UInt8) : Prop := ¬ (122 : UInt8) ∈ s
theorem ren_nat {b : UInt8} : (renB b).toNat = if 97 ≤ b.toNat ∧ b.toNat < 122 then b.toNat + 1 else b.toNat := by
  unfold renB
  split
  · rename_i h
    rw [UInt8.toNat_add]
    have : (1 : UInt8).toNat = 1 := rfl
    rw [this]; omega
  · rfl
theorem z_nat {b : UInt8} (h : b ≠ 122) : b.toNat ≠ 122 := fun e => h (UInt8.toNat_inj.1 (by rw [e]; rfl))
theorem ren_lt {a b : UInt8} (ha : a ≠ 122) (hb : b ≠ 122) : renB a < renB b ↔ a < b := by
  have h1 := z_nat ha
  have h2 := z_nat hb
  rw [UInt8.lt_iff_toNat_lt, UInt8.lt_iff_toNat_lt, ren_nat, ren_nat]
  split <;> split <;> omega
theorem ren_inj {a b : UInt8} (ha : a ≠ 122) (hb : b ≠ 122) : renB a = renB b ↔ a = b := by
  have h1 := z_nat ha
  have h2 := z_nat hb
  rw [← UInt8.toNat_inj, ← UInt8.toNat_inj, ren_nat, ren_nat]
  split <;> split <;> omega
theorem renS_less : ∀ {s t : List UInt8}, NoZ s → NoZ t → Op.bytesLess (renS s) (renS t) = Op.bytesLess s t
  | [], [], _, _ => rfl
  | [], b :: t, _, _ => rfl
  | a :: s, [], _, _ => rfl
  | a :: s, b :: t, hs, ht => by
    unfold NoZ at hs ht
    simp only [List.mem_cons, not_or] at hs ht
    have ih := renS_less (s := s) (t := t) hs.2 ht.2
    have h1 := ren_lt (Ne.symm hs.1) (Ne.symm ht.1)
    have h2 := ren_inj (Ne.symm hs.1) (Ne.symm ht.1)
    have h3 := ren_lt (Ne.symm ht.1) (Ne.symm hs.1)
    unfold renS at ih ⊢
    have h4 : (renB a == renB b) = (a == b) := by rw [Bool.eq_iff_iff, beq_iff_eq, beq_iff_eq]; exact h2
    simp only [List.map_cons, Op.bytesLess, h1, h2, h3, h4, ih]
theorem renS_inj : ∀ {s t : List UInt8}, NoZ s → NoZ t → (renS s = renS t ↔ s = t)
  | [], [], _, _ => by simp
  | [], b :: t, _, _ => by simp [renS]
  | a :: s, [], _, _ => by simp [renS]
  | a :: s, b :: t, hs, ht => by
    unfold NoZ at hs ht
    simp only [List.mem_cons, not_or] at hs ht
    have ih := renS_inj (s := s) (t := t) hs.2 ht.2
    have h2 := ren_inj (Ne.symm hs.1) (Ne.symm ht.1)
    unfold renS at ih ⊢
    simp only [List.map_cons, List.cons.injEq, h2, ih]
theorem ren_leq {s t : List UInt8} (hs : NoZ s) (ht : NoZ t) : L21.leqS (renS s) (renS t) = L21.leqS s t := by
  unfold L21.leqS
  rw [renS_less hs ht]
  congr 1
  rw [Bool.eq_iff_iff, beq_iff_eq, beq_iff_eq, renS_inj hs ht]
theorem ren_letter {b : UInt8} : L21.letterB (renB b) = L21.letterB b := by
  unfold L21.letterB
  rw [ren_nat]
  congr 1
  rw [eq_iff_iff]
  split <;> omega
theorem ren_dot {s : List UInt8} (hs : NoZ s) {t : List UInt8} (ht : NoZ t) (e : renS t = t) : renS s = t ↔ s = t := by
  conv => lhs; rhs; rw [← e]
  exact renS_inj hs ht
theorem ren_name {s : List UInt8} (hs : NoZ s) : L21.nameB (renS s) = L21.nameB s := by
  unfold L21.nameB
  have h1 : renS s = [] ↔ s = [] := by simp [renS]
  have h2 := ren_dot hs (t := [46]) (fun h => by simp at h) (by decide)
  have h3 := ren_dot hs (t := [46, 46]) (fun h => by simp at h) (by decide)
  have h4 : (renS s).length = s.length := by simp [renS]
  have h5 : (∀ b ∈ renS s, L21.letterB b = true) ↔ ∀ b ∈ s, L21.letterB b = true := by
    unfold renS
    simp only [List.mem_map, forall_exists_index, and_imp, forall_apply_eq_imp_iff₂, ren_letter]
  simp only [ne_eq, h1, h2, h3, h4, h5]
theorem ren_names {l : List (List UInt8)} (hz : ∀ s ∈ l, NoZ s) : L21.NamesOk (l.map renS) ↔ L21.NamesOk l := by
  constructor
  · intro h i s hs
    have hzs := hz s (List.mem_of_getElem? hs)
    obtain ⟨a, b⟩ := h i (renS s) (by rw [List.getElem?_map, hs]; rfl)
    refine ⟨by rw [← ren_name hzs]; exact a, fun t h0 ht => ?_⟩
    have hzt := hz t (List.mem_of_getElem? ht)
    have := b (renS t) h0 (by rw [List.getElem?_map, ht]; rfl)
    rwa [ren_leq hzs hzt] at this
  · intro h i s hs
    rw [List.getElem?_map, Option.map_eq_some_iff] at hs
    obtain ⟨s', hs', rfl⟩ := hs
    have hzs := hz s' (List.mem_of_getElem? hs')
    obtain ⟨a, b⟩ := h i s' hs'
    refine ⟨by rw [ren_name hzs]; exact a, fun t h0 ht => ?_⟩
    rw [List.getElem?_map, Option.map_eq_some_iff] at ht
    obtain ⟨t', ht', rfl⟩ := ht
    rw [ren_leq hzs (hz t' (List.mem_of_getElem? ht'))]
    exact b t' h0 ht'
theorem ren_right {x : Leaf} (hz : ¬ hasZ x) : (renX x).Right ↔ x.Right := by
  have hz' : ∀ s ∈ x.names, NoZ s := fun s hs h => hz ⟨s, hs, h⟩
  unfold L21.Leaf.Right L21.Leaf.File L21.Leaf.Dir renX
  simp only [ren_names hz', List.map_eq_nil_iff, List.length_map]
theorem ren_table {l : List Leaf} (hz : ∀ x ∈ l, ¬ hasZ x) : L21.Table (l.map renX) ↔ L21.Table l := by
  constructor
  · intro h i x hx
    obtain ⟨a, b⟩ := h i (renX x) (by rw [List.getElem?_map, hx]; rfl)
    exact ⟨(ren_right (hz x (List.mem_of_getElem? hx))).1 a, fun y h0 hy => b (renX y) h0 (by rw [List.getElem?_map, hy]; rfl)⟩
  · intro h i x hx
    rw [List.getElem?_map, Option.map_eq_some_iff] at hx
    obtain ⟨x', hx', rfl⟩ := hx
    obtain ⟨a, b⟩ := h i x' hx'
    refine ⟨(ren_right (hz x' (List.mem_of_getElem? hx'))).2 a, fun y h0 hy => ?_⟩
    rw [List.getElem?_map, Option.map_eq_some_iff] at hy
    obtain ⟨y', hy', rfl⟩ := hy
    exact b y' h0 hy'
theorem texts_len {l : List (List UInt8)} : (L21.textsB (l.map renS)).length = (L21.textsB l).length := by
  have hl : ∀ s : List UInt8, (renS s).length = s.length := fun s => by simp [renS]
  have hp : ∀ l : List (List UInt8), ((l.map renS).flatMap textS).length = (l.flatMap textS).length := fun l => by
    induction l with
    | nil => rfl
    | cons s l ih =>
      rw [List.map_cons, List.flatMap_cons, List.flatMap_cons, List.length_append, List.length_append, ih]
      congr 1
      simp [textS, hl]
  have hc : (512 < (l.map renS).length ∨ ∃ s ∈ l.map renS, 16384 < s.length) ↔ (512 < l.length ∨ ∃ s ∈ l, 16384 < s.length) := by
    rw [List.length_map]
    refine or_congr Iff.rfl ⟨fun ⟨s, hs, h⟩ => ?_, fun ⟨s, hs, h⟩ => ⟨renS s, List.mem_map.2 ⟨s, hs, rfl⟩, by rw [hl]; exact h⟩⟩
    obtain ⟨s', hs', rfl⟩ := List.mem_map.1 hs
    exact ⟨s', hs', by rw [hl] at h; exact h⟩
  unfold L21.textsB
  by_cases h : 512 < l.length ∨ ∃ s ∈ l, 16384 < s.length
  · rw [if_pos h, if_pos (hc.2 h)]
  · rw [if_neg h, if_neg (fun q => h (hc.1 q))]
    simp only [laidAll, L01.part, List.length_append, List.length_cons, List.take_length, hp]
theorem leafG_ren {x : Leaf} : (L21.leafG (renX x)).length = (L21.leafG x).length := by
  unfold L21.leafG renX
  simp only [List.length_append, texts_len]
theorem byt_ren {l : List Leaf} : (byt (l.map renX)).length = (byt l).length := by
  unfold byt
  induction l with
  | nil => rfl
  | cons x l ih => rw [List.map_cons, List.flatMap_cons, List.flatMap_cons, List.length_append, List.length_append, ih, leafG_ren]
theorem vol_ren {l : List Leaf} : VolOk ((l.map renX).map nodeOf) ↔ VolOk (l.map nodeOf) := by
  have e1 : ((l.map renX).map nodeOf).map gN = (l.map nodeOf).map gN := by simp only [List.map_map]; rfl
  have e2 : (((l.map renX).map nodeOf).map fun x => blkV x.data.length) = (l.map nodeOf).map fun x => blkV x.data.length := by simp only [List.map_map]; rfl
  have e3 : (((l.map renX).map nodeOf).map fun x => x.names.length) = (l.map nodeOf).map fun x => x.names.length := by
    simp only [List.map_map]
    refine List.map_congr_left fun x hx => ?_
    simp [nodeOf, renX]
  have e4 : ((l.map renX).map nodeOf).map (fun x => (x.num, x.kind)) = (l.map nodeOf).map (fun x => (x.num, x.kind)) := by simp only [List.map_map]; rfl
  have key : ∀ {a b : List Node}, a.map gN = b.map gN → (a.map fun x => blkV x.data.length) = (b.map fun x => blkV x.data.length) → (a.map fun x => x.names.length) = (b.map fun x => x.names.length) → a.map (fun x => (x.num, x.kind)) = b.map (fun x => (x.num, x.kind)) → VolOk a → VolOk b := by
    intro a b h1 h2 h3 h4 h
    have h4' : ∀ {i : Nat} {x : Node}, a[i]? = some x → ∃ y, b[i]? = some y ∧ y.num = x.num ∧ y.kind = x.kind := fun {i x} hx => by
      have : (b.map (fun x => (x.num, x.kind)))[i]? = some (x.num, x.kind) := by rw [← h4, List.getElem?_map, hx]; rfl
      rw [List.getElem?_map, Option.map_eq_some_iff] at this
      obtain ⟨y, hy, e⟩ := this
      exact ⟨y, hy, (Prod.mk.inj e).1, (Prod.mk.inj e).2⟩
    obtain ⟨x, hx, hx1, hx2⟩ := h.r
    obtain ⟨y, hy, hy1, hy2⟩ := h4' hx
    refine ⟨⟨y, hy, by rw [hy1, hx1], by rw [hy2, hx2]⟩, by rw [← h1]; exact h.c, fun y hy hn => ?_, by rw [← h2]; exact h.b, by rw [← h3]; exact h.n⟩
    have : (y.num, y.kind) ∈ a.map (fun x => (x.num, x.kind)) := by rw [h4]; exact List.mem_map.2 ⟨y, hy, rfl⟩
    obtain ⟨x, hx, e⟩ := List.mem_map.1 this
    obtain ⟨e1, e2⟩ := Prod.mk.inj e
    rw [← h1, ← e1]; exact h.u x hx (by rw [e1]; exact hn)
  exact ⟨key e1 e2 e3 e4, key e1.symm e2.symm e3.symm e4.symm⟩
theorem tab_ren {l : List Leaf} : TabOk (renL l) ↔ TabOk l := by
  unfold renL
  split
  · exact Iff.rfl
  · rename_i h
    have hz : ∀ x ∈ l, ¬ hasZ x := fun x hx hq => h ⟨x, hx, hq⟩
    unfold TabOk
    rw [ren_table hz, byt_ren, vol_ren]
theorem few_ren {l : List Leaf} (h : FewL l) : FewL (renL l) := by
  unfold renL
  split
  · exact h
  · refine ⟨by rw [List.length_map]; exact h.1, fun x hx => ?_⟩
    obtain ⟨y, hy, rfl⟩ := List.mem_map.1 hx
    have := h.2 y hy
    simpa [renX] using this
def core (x : Leaf) : Leaf := { x with names := [] }
theorem core_ren {l : List Leaf} : (renL l).map core = l.map core := by
  unfold renL
  split
  · rfl
  · rw [List.map_map]; rfl
theorem twin_core {x y : Leaf} {i : Nat} : Twin (core x) i (core y) ↔ Twin x i y := Iff.rfl
theorem from_core {x : Leaf} {i : Nat} : ∀ {old : List Leaf}, fromO (old.map core) (core x) i = fromO old x i
  | [] => rfl
  | y :: old => by
    have ih := from_core (x := x) (i := i) (old := old)
    unfold fromO at ih ⊢
    rw [List.map_cons, List.find?_cons, List.find?_cons]
    by_cases h : Twin x i y
    · rw [decide_eq_true h, decide_eq_true (twin_core.2 h)]; rfl
    · rw [decide_eq_false h, decide_eq_false (fun q => h (twin_core.1 q))]; exact ih
theorem had_core {old : List Leaf} {x : Leaf} {i : Nat} {t : Tch} : hadP (old.map core) (core x) i t = hadP old x i t := by
  unfold hadP
  rw [from_core]; rfl
theorem chB_core {me : Int} {old : List Leaf} {t : Tch} {x : Leaf} {st : List Shp × Int} : ∀ k, chB me (old.map core) t (core x) st k = chB me old t x st k
  | 0 => rfl
  | k + 1 => by
    rw [chB, chB, chB_core k, had_core]; rfl
theorem chL_core {me : Int} {old l : List Leaf} {t : Tch} : ∀ k, chL me (old.map core) t (l.map core) k = chL me old t l k
  | 0 => rfl
  | k + 1 => by
    rw [chL, chL, chL_core k, List.getElem?_map]
    congr 1
    funext st
    cases l[k]? with
    | none => rfl
    | some x => exact chB_core _
theorem blk_core {l : List Leaf} : blkL (l.map core) = blkL l := by unfold blkL; rw [List.flatMap_map]; rfl
theorem blind {me n : Int} {old l : List Leaf} {t : Tch} : chg me n (renL old) (renL l) t = chg me n old l t := by
  have h1 : chL me (renL old) t (renL l) (renL l).length = chL me old t l l.length := by
    rw [← chL_core, core_ren, core_ren, chL_core]
    congr 1
    have := congrArg List.length (core_ren (l := l))
    simpa using this
  have h2 : blkL (renL old) = blkL old := by rw [← blk_core, core_ren, blk_core]
  have h3 : blkL (renL l) = blkL l := by rw [← blk_core, core_ren, blk_core]
  have h4 : (byt (renL l)).length = (byt l).length := by
    unfold renL
    split
    · rfl
    · exact byt_ren
  unfold chg chE
  simp only [tab_ren, h1, h2, h3, h4]
section
variable {σ : AST} {K : AV → AST → Prop}
theorem shapeBlind_c {c : Trn} {to tl : Tk} (h1 : Rng c.me) (h2 : Rng c.n) (hK : K (.bool true) σ) : TCalls Try.prog 5 [trnV to tl c] σ K := by
  refine TCalls.drop ?_
  have k0 : (σ.app [.cells (trnV to tl c)]).objs[σ.objs.length]? = some (.cells (trnV to tl c)) := objs_app0
  have hx : Ext σ (σ.app [.cells (trnV to tl c)]) := Ext.app _ _
  have fin : ∀ s', Ext σ s' → Ext σ s' ∧ (AV.bool true).noRef = true ∧ K (AV.bool true).strip σ := fun s' h => ⟨h, rfl, hK⟩
  refine tcalls_walk Try.f5 _ [.tmp 2] Try.func5 rfl rfl rfl mixed (Nat.le_of_ble_eq_true rfl) rfl fun hlen => ?_
  repeat' (first | (simp -dsimp only [↓reduceIte, go_sem]) | (refine arr_intro fun _ => ?_) | (refine later_intro ⟨keeps_nil, ?_⟩) | (refine later_intro ⟨keeps_refl, ?_⟩) | (with_reducible refine keeps_go ?_ ?_; focus (first | (simp [keeps_cons, keeps_none, objs_app, objs_app0]; done) | (simp only [keeps_cons, keeps_none, objs_app0, objs_app, and_true]; first | rfl | exact ⟨rfl, rfl⟩ | exact ⟨rfl, rfl, rfl⟩))) | (with_reducible refine (And.intro (a := keeps _ _ _) ?_ ?_); focus (first | (simp [keeps_cons, keeps_none, objs_app, objs_app0]; done) | (simp only [keeps_cons, keeps_none, objs_app0, objs_app, and_true]; first | rfl | exact ⟨rfl, rfl⟩ | exact ⟨rfl, rfl, rfl⟩))) | (refine both_ways ?_ ?_) | (rw [wrap_i64 (by omega) (by omega)]) | (refine guardV_split (fun h => ?_) (fun h => ?_) <;> (try rw [h]) <;> (try simp at h) <;> (try (exfalso; omega))) | (refine few_c (fun hf1 => ?_) (fun hf1 => ?_)) | (refine awake31_d ?_))
  · rename_i hf0
    refine change_c h1 h2 hf0 hf1 (fun s1 t1 hE1 => ?_)
    have k1 := ext_knownV hE1 k0
    have c1 := cellAt_known k1
    have hln := chg_len (me := c.me) (n := c.n) (old := c.old.map (·.x)) (t := c.t) hf1
    repeat' (first | (simp -dsimp only [↓reduceIte, go_sem, c1]) | (refine arr_intro fun _ => ?_) | (refine later_intro ⟨keeps_nil, ?_⟩) | (refine later_intro ⟨keeps_refl, ?_⟩) | (with_reducible refine keeps_go ?_ ?_; focus (first | (simp [keeps_cons, keeps_none, objs_app, objs_app0]; done) | (simp only [keeps_cons, keeps_none, objs_app0, objs_app, and_true]; first | rfl | exact ⟨rfl, rfl⟩ | exact ⟨rfl, rfl, rfl⟩))) | (with_reducible refine (And.intro (a := keeps _ _ _) ?_ ?_); focus (first | (simp [keeps_cons, keeps_none, objs_app, objs_app0]; done) | (simp only [keeps_cons, keeps_none, objs_app0, objs_app, and_true]; first | rfl | exact ⟨rfl, rfl⟩ | exact ⟨rfl, rfl, rfl⟩))) | (refine both_ways ?_ ?_) | (rw [wrap_i64 (by omega) (by omega)]) | (refine guardV_split (fun h => ?_) (fun h => ?_) <;> (try rw [h]) <;> (try simp at h) <;> (try (exfalso; omega))) | (with_reducible refine awp_drawU (id := 4) (.op 0 0 (.op 1 0 (.op 2 0 (.op 3 0 (.op 4 2 (.op 5 2 (.op 7 0 (.op 8 0 (.op 10 0 (.op 11 0 (.op 6 1 (.op 9 1 (.cut (.op 12 1 (.op 13 2 (.op 14 2 (.op 15 2 (.op 16 2 (.op 17 2 .nil))))))))))))))))))) (by kernel_rfl) ?_) | (refine renamed_c hf0 (fun s2 t2 l2 hE2 e2 => ?_)))
    have k2 := ext_knownV hE2 k1
    have c2 := cellAt_known k2
    repeat' (first | (simp -dsimp only [↓reduceIte, go_sem, c2]) | (refine arr_intro fun _ => ?_) | (refine later_intro ⟨keeps_nil, ?_⟩) | (refine later_intro ⟨keeps_refl, ?_⟩) | (with_reducible refine keeps_go ?_ ?_; focus (first | (simp [keeps_cons, keeps_none, objs_app, objs_app0]; done) | (simp only [keeps_cons, keeps_none, objs_app0, objs_app, and_true]; first | rfl | exact ⟨rfl, rfl⟩ | exact ⟨rfl, rfl, rfl⟩))) | (with_reducible refine (And.intro (a := keeps _ _ _) ?_ ?_); focus (first | (simp [keeps_cons, keeps_none, objs_app, objs_app0]; done) | (simp only [keeps_cons, keeps_none, objs_app0, objs_app, and_true]; first | rfl | exact ⟨rfl, rfl⟩ | exact ⟨rfl, rfl, rfl⟩))) | (refine both_ways ?_ ?_) | (rw [wrap_i64 (by omega) (by omega)]) | (refine guardV_split (fun h => ?_) (fun h => ?_) <;> (try rw [h]) <;> (try simp at h) <;> (try (exfalso; omega))) | (with_reducible refine keeps_go ?_ ?_; focus (simp [keeps_cons, keeps_none, objs_app, objs_app0, k1, k2]; done)) | (with_reducible refine (And.intro (a := keeps _ _ _) ?_ ?_); focus (simp [keeps_cons, keeps_none, objs_app, objs_app0, k1, k2]; done)) | (refine renamed_c hf1 (fun s3 t3 l3 hE3 e3 => ?_)))
    have k3 := ext_knownV hE3 k2
    have c3 := cellAt_known k3
    have hf0' : FewL (l2.map (·.x)) := by rw [e2]; exact few_ren hf0
    have hf1' : FewL (l3.map (·.x)) := by rw [e3]; exact few_ren hf1
    repeat' (first | (simp -dsimp only [↓reduceIte, go_sem, c3]) | (refine arr_intro fun _ => ?_) | (refine later_intro ⟨keeps_nil, ?_⟩) | (refine later_intro ⟨keeps_refl, ?_⟩) | (with_reducible refine keeps_go ?_ ?_; focus (first | (simp [keeps_cons, keeps_none, objs_app, objs_app0]; done) | (simp only [keeps_cons, keeps_none, objs_app0, objs_app, and_true]; first | rfl | exact ⟨rfl, rfl⟩ | exact ⟨rfl, rfl, rfl⟩))) | (with_reducible refine (And.intro (a := keeps _ _ _) ?_ ?_); focus (first | (simp [keeps_cons, keeps_none, objs_app, objs_app0]; done) | (simp only [keeps_cons, keeps_none, objs_app0, objs_app, and_true]; first | rfl | exact ⟨rfl, rfl⟩ | exact ⟨rfl, rfl, rfl⟩))) | (refine both_ways ?_ ?_) | (rw [wrap_i64 (by omega) (by omega)]) | (refine guardV_split (fun h => ?_) (fun h => ?_) <;> (try rw [h]) <;> (try simp at h) <;> (try (exfalso; omega))) | (with_reducible refine keeps_go ?_ ?_; focus (simp [keeps_cons, keeps_none, objs_app, objs_app0, k2, k3]; done)) | (with_reducible refine (And.intro (a := keeps _ _ _) ?_ ?_); focus (simp [keeps_cons, keeps_none, objs_app, objs_app0, k2, k3]; done)) | (refine change_c h1 h2 hf0' hf1' (fun s4 t4 hE4 => ?_)))
    rw [e2, e3, blind]
    generalize hch : chg c.me c.n (c.old.map (·.x)) (c.l.map (·.x)) c.t = r at hln ⊢
    have k4 := ext_knownV hE4 k3
    repeat' (first | (simp -dsimp only [↓reduceIte, go_sem]) | (refine arr_intro fun _ => ?_) | (refine later_intro ⟨keeps_nil, ?_⟩) | (refine later_intro ⟨keeps_refl, ?_⟩) | (with_reducible refine keeps_go ?_ ?_; focus (first | (simp [keeps_cons, keeps_none, objs_app, objs_app0]; done) | (simp only [keeps_cons, keeps_none, objs_app0, objs_app, and_true]; first | rfl | exact ⟨rfl, rfl⟩ | exact ⟨rfl, rfl, rfl⟩))) | (with_reducible refine (And.intro (a := keeps _ _ _) ?_ ?_); focus (first | (simp [keeps_cons, keeps_none, objs_app, objs_app0]; done) | (simp only [keeps_cons, keeps_none, objs_app0, objs_app, and_true]; first | rfl | exact ⟨rfl, rfl⟩ | exact ⟨rfl, rfl, rfl⟩))) | (refine both_ways ?_ ?_) | (rw [wrap_i64 (by omega) (by omega)]) | (refine guardV_split (fun h => ?_) (fun h => ?_) <;> (try rw [h]) <;> (try simp at h) <;> (try (exfalso; omega))) | (with_reducible refine keeps_go ?_ ?_; focus (simp [keeps_cons, keeps_none, objs_app, objs_app0, k3, k4]; done)) | (with_reducible refine (And.intro (a := keeps _ _ _) ?_ ?_); focus (simp [keeps_cons, keeps_none, objs_app, objs_app0, k3, k4]; done)) | (refine awake31_d ?_) | (refine same31_c hln ?_))
    all_goals exact fin _ (hx.trans (hE1.trans (hE2.trans (hE3.trans hE4))))
  all_goals exact fin _ hx
end
end Go.Aff.L10

namespace Go.Aff.L10
open Go.Proofs Go.Aff Go.Aff.L01 Classical
set_option maxRecDepth 20000

theorem sh_ints {n : Nat} {v : AV} (h : ShT Try.prog (n + 2) 50 v) : ∃ (tk : Tk) (l : List Int), v = .slice tk (l.map (AV.int .i64)) ∧ ∀ x ∈ l, Rng x := by
  obtain ⟨tk, xs, rfl, e⟩ := sh_slice (n := n + 1) (t := 50) Try.underlying50 h
  obtain ⟨l, rfl, hl⟩ := map_of (f := AV.int .i64) (p := Rng) (fun x hx => by obtain ⟨i, rfl, h1, h2⟩ := sh_int (n := n) (t := 3) Try.underlying3 (e x hx); exact ⟨i, rfl, h1, h2⟩)
  exact ⟨tk, l, rfl, hl⟩
theorem sh_strs {n : Nat} {v : AV} (h : ShT Try.prog (n + 2) 43 v) : ∃ (tk : Tk) (l : List (List UInt8)), v = .slice tk (l.map AV.str) := by
  obtain ⟨tk, xs, rfl, e⟩ := sh_slice (n := n + 1) (t := 43) Try.underlying43 h
  obtain ⟨l, rfl, hl⟩ := map_of (f := AV.str) (p := fun _ => True) (fun x hx => by obtain ⟨i, rfl⟩ := sh_str (n := n) (t := 9) Try.underlying9 (e x hx); exact ⟨i, rfl, trivial⟩)
  exact ⟨tk, l, rfl⟩
theorem sh_leaf {n : Nat} {v : AV} (h : ShT Try.prog (n + 9) 84 v) : ∃ y : TL, v = L21.leafV y := by
  obtain ⟨ps, rfl, hps⟩ := sh_struct (n := n + 8) Try.underlying84 h
  obtain ⟨p0, r, rfl, h0, hps⟩ := shTs_cons (n := n + 7) hps
  obtain ⟨p1, r, rfl, h1, hps⟩ := shTs_cons (n := n + 6) hps
  obtain ⟨p2, r, rfl, h2, hps⟩ := shTs_cons (n := n + 5) hps
  obtain ⟨p3, r, rfl, h3, hps⟩ := shTs_cons (n := n + 4) hps
  obtain ⟨p4, r, rfl, h4, hps⟩ := shTs_cons (n := n + 3) hps
  obtain ⟨p5, r, rfl, h5, hps⟩ := shTs_cons (n := n + 2) hps
  obtain rfl := shTs_nil hps
  obtain ⟨a, rfl, _, _⟩ := sh_int (t := 3) Try.underlying3 h0
  obtain ⟨b, rfl, _, _⟩ := sh_int (t := 3) Try.underlying3 h1
  obtain ⟨c, rfl, _, _⟩ := sh_int (t := 3) Try.underlying3 h2
  obtain ⟨t1, d, rfl, _⟩ := sh_ints (n := n + 2) h3
  obtain ⟨t2, e, rfl⟩ := sh_strs (n := n + 1) h4
  obtain ⟨t3, f, rfl, _⟩ := sh_ints (n := n) h5
  exact ⟨⟨⟨a, b, c, d, e, f⟩, t1, t2, t3⟩, rfl⟩
theorem sh_leafs {n : Nat} {v : AV} (h : ShT Try.prog (n + 11) 22 v) : ∃ (tk : Tk) (l : List TL), v = .slice tk (l.map L21.leafV) := by
  obtain ⟨tk, xs, rfl, e⟩ := sh_slice (n := n + 10) (t := 22) Try.underlying22 h
  obtain ⟨l, rfl, _⟩ := map_of (f := L21.leafV) (p := fun _ => True) (fun x hx => by obtain ⟨y, rfl⟩ := sh_leaf (n := n + 1) (e x hx); exact ⟨y, rfl, trivial⟩)
  exact ⟨tk, l, rfl⟩
theorem sh_tch {n : Nat} {v : AV} (h : ShT Try.prog (n + 6) 24 v) : ∃ y : Tch, v = tchV y := by
  obtain ⟨ps, rfl, hps⟩ := sh_struct (n := n + 5) Try.underlying24 h
  obtain ⟨p0, r, rfl, h0, hps⟩ := shTs_cons (n := n + 4) hps
  obtain ⟨p1, r, rfl, h1, hps⟩ := shTs_cons (n := n + 3) hps
  obtain ⟨p2, r, rfl, h2, hps⟩ := shTs_cons (n := n + 2) hps
  obtain rfl := shTs_nil hps
  obtain ⟨a, rfl, _, _⟩ := sh_int (t := 3) Try.underlying3 h0
  obtain ⟨b, rfl, _, _⟩ := sh_int (t := 3) Try.underlying3 h1
  obtain ⟨c, rfl, _, _⟩ := sh_int (t := 3) Try.underlying3 h2
  exact ⟨⟨a, b, c⟩, rfl⟩
theorem sh_trn {v : AV} (h : ShT Try.prog 50 26 v) : ∃ (t u : Tk) (x : Trn), v = trnV t u x ∧ Rng x.me ∧ Rng x.n := by
  obtain ⟨ps, rfl, hps⟩ := sh_struct (n := 49) Try.underlying26 h
  obtain ⟨p0, r, rfl, h0, hps⟩ := shTs_cons (n := 48) hps
  obtain ⟨p1, r, rfl, h1, hps⟩ := shTs_cons (n := 47) hps
  obtain ⟨p2, r, rfl, h2, hps⟩ := shTs_cons (n := 46) hps
  obtain ⟨p3, r, rfl, h3, hps⟩ := shTs_cons (n := 45) hps
  obtain ⟨p4, r, rfl, h4, hps⟩ := shTs_cons (n := 44) hps
  obtain rfl := shTs_nil hps
  obtain ⟨a, rfl, a1, a2⟩ := sh_int (t := 3) Try.underlying3 h0
  obtain ⟨b, rfl, b1, b2⟩ := sh_int (t := 3) Try.underlying3 h1
  obtain ⟨t, c, rfl⟩ := sh_leafs (n := 35) h2
  obtain ⟨u, d, rfl⟩ := sh_leafs (n := 34) h3
  obtain ⟨e, rfl⟩ := sh_tch (n := 38) h4
  exact ⟨t, u, ⟨a, b, c, d, e⟩, rfl, ⟨a1, a2⟩, ⟨b1, b2⟩⟩
end Go.Aff.L10

namespace Go.Aff.L10
end Go.Aff.L10

