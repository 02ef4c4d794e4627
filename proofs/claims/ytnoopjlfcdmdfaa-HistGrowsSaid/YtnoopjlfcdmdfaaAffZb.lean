/- Walking: stores; states by what has been added to a first one. -/
import Derived.Test.YtnoopjlfcdmdfaaAffZa
namespace Go.Aff
set_option linter.unusedVariables false
set_option linter.unusedSimpArgs false

variable {P : Program} {σ σ' : AST} {K : AV → AST → Prop} {KV : AV → Prop} {KS : AST → Prop}

/-- A state with more objects. -/
def AST.app (σ : AST) (l : List AObj) : AST := ⟨σ.objs ++ l, σ.toks⟩
theorem push_app {o : AObj} : σ.push o = σ.app [o] := rfl
theorem app_app {a b : List AObj} : (σ.app a).app b = σ.app (a ++ b) := by simp [AST.app]
theorem app_nil : σ.app [] = σ := by simp [AST.app]
theorem length_app {l : List AObj} : (σ.app l).objs.length = σ.objs.length + l.length := by simp [AST.app]
theorem toks_app {l : List AObj} : (σ.app l).toks = σ.toks := rfl
theorem objs_app {l : List AObj} {k : Nat} : (σ.app l).objs[σ.objs.length + k]? = l[k]? := by
  simp only [AST.app]; rw [List.getElem?_append_right (by omega)]; congr 1; omega
theorem objs_app0 {l : List AObj} : (σ.app l).objs[σ.objs.length]? = l[0]? := objs_app (k := 0)
theorem cellAt_app {l : List AObj} {k : Nat} {p : List Nat} : cellAt (σ.app l) (σ.objs.length + k) p = (l[k]?).bind fun o => objCell o p := by simp only [cellAt, objs_app]
theorem cellAt_app0 {l : List AObj} {p : List Nat} : cellAt (σ.app l) σ.objs.length p = (l[0]?).bind fun o => objCell o p := cellAt_app (k := 0)
theorem set_app {l : List AObj} {k : Nat} {o : AObj} : (σ.app l).set (σ.objs.length + k) o = σ.app (l.set k o) := by
  simp only [AST.app, AST.set]; congr 1
  rw [List.set_append_right _ _ (by omega)]; congr 2; omega
theorem set_app0 {l : List AObj} {o : AObj} : (σ.app l).set σ.objs.length o = σ.app (l.set 0 o) := set_app (k := 0)
theorem Ext.app (σ : AST) (l : List AObj) : Ext σ (σ.app l) := ⟨l, [], by simp [AST.app]⟩

def storeC (P : Program) (t : TypeId) (o : Option AObj) (p : List Nat) (x : AV) (K : AV → Prop) : Prop := match o with
  | some (.cells v) => match v.at p with
    | some u => fits P t x ∧ x.shape = u.shape ∧ x.known = true ∧ setOk v p x ∧ K (v.setAt p x)
    | none => False
  | _ => False
def storeV (P : Program) (t : TypeId) (v : AV) (u : Option AV) (p : List Nat) (x : AV) (K : AV → Prop) : Prop := match u with
  | some u => fits P t x ∧ x.shape = u.shape ∧ x.known = true ∧ setOk v p x ∧ K (v.setAt p x)
  | none => False
theorem store_ptr {t : TypeId} {j : Nat} {p : List Nat} {x : AV} : storeW P σ t (.ptr (some (j, p))) x KS = storeC P t σ.objs[j]? p x (@LamA _ ⟨fun v' => KS (σ.set j (.cells v'))⟩) := by
  simp only [storeW, storeC, LamA]
  cases h : σ.objs[j]? with
  | none => rfl
  | some o => cases o <;> rfl
theorem storeC_cells {t : TypeId} {v x : AV} {p : List Nat} : storeC P t (some (.cells v)) p x KV = storeV P t v (v.at p) p x KV := nr rfl
theorem storeV_some {t : TypeId} {v u x : AV} {p : List Nat} : storeV P t v (some u) p x KV = ((fits P t x ∧ x.shape = u.shape ∧ x.known = true ∧ setOk v p x) ∧ @Later ⟨KV (v.setAt p x)⟩) := by
  simp [storeV, Later, and_assoc]
theorem setOk_nil {v x : AV} : setOk v [] x = True := by cases v <;> simp [setOk]
theorem setAt_nil {v x : AV} : v.setAt [] x = x := by cases v <;> simp [AV.setAt]
theorem shape_int {k : IntKind} {n : Int} : (AV.int k n).shape = .leaf := by simp [AV.shape]
theorem shape_str {s : List UInt8} : (AV.str s).shape = .leaf := by simp [AV.shape]
theorem shape_bool {b : Bool} : (AV.bool b).shape = .leaf := by simp [AV.shape]
theorem shape_slice {tk : Tk} {xs : List AV} : (AV.slice tk xs).shape = .leaf := by simp [AV.shape]
theorem shape_ptr {p : Option (Nat × List Nat)} : (AV.ptr p).shape = .leaf := by simp [AV.shape]
theorem shape_fn {f : Fn} {a b : List AV} : (AV.fn f a b).shape = .leaf := by simp [AV.shape]

/-- A place of an array of ints in memory. -/
theorem indexAddr_ptr {t e n : Nat} {j : Nat} {k : IntKind} {xs : List Int} {i : Nat} {x : Int} (hu : P.underlying t = some (.array n e)) (he : P.underlying e = some (.int k)) (hc : P.cellsOf e = 1) (hl : xs.length = n)
    (ho : σ.objs[j]? = some (.cells (.agg (xs.map (AV.int k))))) (hi : xs[i]? = some x) (hK : KV (.ptr (some (j, [i])))) {q : IntKind} : indexAddrW P σ t (.ptr (some (j, []))) (.int q i) KV := by
  have hin : i < n := by rw [← hl]; exact (List.getElem?_eq_some_iff.1 hi).1
  have hsz : ∀ l : List Int, AV.sizes (l.map (AV.int k)) = l.length := by
    intro l
    induction l with
    | nil => rfl
    | cons a r ih => simp only [List.map_cons, AV.sizes, AV.size, ih, List.length_cons]; omega
  have hpl : placeOf P t i = some (i * 1, e) := by
    unfold placeOf
    rw [hu]; simp only; rw [if_pos hin, hc]
  simp only [indexAddrW, ho]
  show nthW (xs.map (AV.int k)) (i : Int) _
  refine ⟨by omega, by simp; omega, fun z hz => ?_⟩
  simp only [Int.toNat_natCast, List.getElem?_map, hi, Option.map_some, Option.some.injEq] at hz
  subst hz
  refine ⟨⟨e, ?_, ?_⟩, ⟨e, by rw [List.length_map, hl]; exact hu⟩, ?_⟩
  · rw [Int.toNat_natCast, hpl, ← List.map_take, hsz, List.length_take]
    congr 2; omega
  · unfold fits
    refine ⟨by unfold aggT; rw [he]; rfl, by rw [hc]; simp [AV.size]⟩
  · simpa using hK
theorem cellAt_int {j i : Nat} {k : IntKind} {xs : List Int} {x : Int} (ho : σ.objs[j]? = some (.cells (.agg (xs.map (AV.int k))))) (hi : xs[i]? = some x) : cellAt σ j [i] = some (.int k x) := by
  simp [cellAt, ho, objCell, AV.at, hi]
/-- A store there. -/
theorem store_int {t j i : Nat} {k : IntKind} {xs : List Int} {x y : Int} (ho : σ.objs[j]? = some (.cells (.agg (xs.map (AV.int k))))) (hi : xs[i]? = some x) (hf : fits P t (.int k y)) (hK : KS (σ.set j (.cells (.agg ((xs.set i y).map (AV.int k)))))) :
    storeW P σ t (.ptr (some (j, [i]))) (.int k y) KS := by
  simp only [storeW, ho, AV.at, List.getElem?_map, hi, Option.map_some, Option.bind_some]
  refine ⟨hf, by simp [AV.shape], rfl, ?_, ?_⟩
  · simp only [setOk, List.getElem?_map, hi, Option.map_some, Option.some.injEq]
    rintro v rfl; trivial
  · have : (AV.agg (xs.map (AV.int k))).setAt [i] (.int k y) = .agg ((xs.set i y).map (AV.int k)) := by
      simp only [AV.setAt, List.getElem?_map, hi, Option.map_some, List.map_set]
    rw [this]; exact hK

theorem storeC_int {t i : Nat} {k : IntKind} {xs : List Int} {x y : Int} {o : Option AObj} (ho : o = some (.cells (.agg (xs.map (AV.int k))))) (hi : xs[i]? = some x) (hf : fits P t (.int k y)) (hK : KV (.agg ((xs.set i y).map (AV.int k)))) :
    storeC P t o [i] (.int k y) KV := by
  subst ho
  simp only [storeC, AV.at, List.getElem?_map, hi, Option.map_some, Option.bind_some]
  refine ⟨hf, by simp [AV.shape], rfl, ?_, ?_⟩
  · simp only [setOk, List.getElem?_map, hi, Option.map_some, Option.some.injEq]
    rintro v rfl; trivial
  · have : (AV.agg (xs.map (AV.int k))).setAt [i] (.int k y) = .agg ((xs.set i y).map (AV.int k)) := by
      simp only [AV.setAt, List.getElem?_map, hi, Option.map_some, List.map_set]
    rw [this]; exact hK

/-- A beginning of a slice. -/
theorem slice_hi {t e c b h : Nat} (E : ElemT P t e c b) (hd : ∃ d, P.underlying e = some d) {tk : Tk} {xs : List AV} {q : IntKind} (hx : ∀ v ∈ xs, v.size = c) (hh : h ≤ xs.length) (hK : ∀ tk', KV (.slice tk' (xs.take h))) :
    sliceW P t (.slice tk xs) none (some (.int q (h : Nat))) none KV := by
  refine ⟨e, E.hu, by rw [E.hc]; exact hx, hd, ?_⟩
  simp only [bndW, Int.toNat_natCast, List.drop_zero]
  exact ⟨by omega, Nat.zero_le _, hh, hK _⟩
/-- An end of one. -/
theorem slice_lo {t e c b h : Nat} (E : ElemT P t e c b) (hd : ∃ d, P.underlying e = some d) {tk : Tk} {xs : List AV} {q : IntKind} (hx : ∀ v ∈ xs, v.size = c) (hh : h ≤ xs.length) (hK : ∀ tk', KV (.slice tk' (xs.drop h))) :
    sliceW P t (.slice tk xs) (some (.int q (h : Nat))) none none KV := by
  refine ⟨e, E.hu, by rw [E.hc]; exact hx, hd, ?_⟩
  simp only [bndW, Int.toNat_natCast, List.take_length]
  exact ⟨by omega, hh, Nat.le_refl _, hK _⟩
theorem one_cell {t : Tmp} {ty : TypeId} {τ : Env} : oneRes P τ σ (.cell t ty) KV = loadW P σ ty (τ t) KV := nr rfl
attribute [go_sem ↓] one_cell
attribute [go_sem] store_ptr storeC_cells storeV_some setOk_nil setAt_nil shape_int shape_str shape_bool shape_slice shape_ptr shape_fn
end Go.Aff
