import Derived.Test.YtnpbneiaflgpdaaG21

set_option linter.unusedSimpArgs false
set_option linter.unusedVariables false

/- Walking: structs as elements, arrays as values, two owners at once. -/
namespace Go.Aff
set_option linter.unusedVariables false
set_option linter.unusedSimpArgs false

variable {P : Program} {σ σ' : AST} {K : AV → AST → Prop} {KV : AV → Prop} {KS : AST → Prop}

theorem fits_agg {t n : Nat} (ha : aggT P t = some true) (hc : P.cellsOf t = n) {v : AV} : fits P t v = (v.isAgg = true ∧ v.size = n) := by
  unfold fits
  rw [ha, hc, eq_iff_iff]
  constructor
  · rintro ⟨h1, h2⟩; exact ⟨(Option.some.inj h1).symm, h2.symm⟩
  · rintro ⟨h1, h2⟩; exact ⟨by rw [h1], h2.symm⟩
theorem shape_agg {ps : List AV} : (AV.agg ps).shape = .node (AV.shapes ps) := by simp [AV.shape]
theorem shapes_nil : AV.shapes [] = [] := rfl
theorem shapes_cons {p : AV} {r : List AV} : AV.shapes (p :: r) = p.shape :: AV.shapes r := by simp [AV.shapes]
theorem shape_dig {d : Dig} : (AV.dig d).shape = .dig := by simp [AV.shape]
theorem fill_nil {t : TypeId} {v : AV} : fillW P t [] v KV = KV v := by cases v <;> rfl
theorem fill_cons {t : TypeId} {i : Nat} {x : AV} {r : List (Nat × AV)} {ps : List AV} {u : AV} (hu : ps[i]? = some u) (h1 : partIs P t ps i x) (h2 : u.shape = x.shape) (h3 : x.known = true) (hK : fillW P t r (.agg (ps.set i x)) KV) :
    fillW P t ((i, x) :: r) (.agg ps) KV := by
  unfold fillW
  exact ⟨u, hu, h1, h2, h3, hK⟩
/-- An array of texts, as a value. -/
theorem index_strs {t e n : Nat} {xs : List (List UInt8)} {i : Nat} {x : List UInt8} {q : IntKind} (hu : P.underlying t = some (.array n e)) (ha : aggT P e = some false) (hc : P.cellsOf e = 1) (hl : xs.length = n) (hi : xs[i]? = some x) (hK : KV (.str x)) :
    indexW P t (.agg (xs.map AV.str)) (.int q i) KV := by
  have hin : i < n := by rw [← hl]; exact (List.getElem?_eq_some_iff.1 hi).1
  have hsz : ∀ l : List (List UInt8), AV.sizes (l.map AV.str) = l.length := by
    intro l
    induction l with
    | nil => rfl
    | cons a r ih => simp only [List.map_cons, AV.sizes, AV.size, ih, List.length_cons]; omega
  unfold indexW
  refine ⟨by omega, by simp; omega, fun z hz => ?_⟩
  simp only [Int.toNat_natCast, List.getElem?_map, hi, Option.map_some, Option.some.injEq] at hz
  subst hz
  refine ⟨⟨e, ?_, ?_⟩, ⟨e, by rw [List.length_map, hl]; exact hu⟩, hK⟩
  · unfold placeOf
    rw [Int.toNat_natCast, hu]; simp only; rw [if_pos hin, hc, ← List.map_take, hsz, List.length_take]
    congr 2; omega
  · rw [fits_leaf ha hc]; exact ⟨rfl, by simp [AV.size]⟩

/-! ### Two owners -/
def apart (a b : Tk) : Prop := ∀ k, a = .own k → b ≠ .own k
theorem apart_full {b : Tk} : apart .full b := fun k h => by cases h
theorem apart.symm {a b : Tk} (h : apart a b) : apart b a := fun k h1 h2 => h k h2 h1
theorem canApp_apart {a b : Tk} {n m e f : Nat} (h : apart a b) (hc : canApp σ b m f) : canApp (growS σ a n e) b m f := by
  cases b with
  | none => exact hc.elim
  | lit => exact hc.elim
  | full => trivial
  | own k =>
    simp only [canApp] at hc ⊢
    cases a with
    | none => exact hc
    | lit => exact hc
    | full =>
      simp only [growS, AST.tok]
      rw [List.getElem?_append_left (List.getElem?_eq_some_iff.1 hc).1]; exact hc
    | own j =>
      have hne : j ≠ k := fun e => by subst e; exact h j rfl rfl
      simp only [growS, AST.setTok]
      rw [List.getElem?_set_ne hne]; exact hc
theorem apart_grow {a b : Tk} {m f : Nat} (h : apart a b) (hc : canApp σ b m f) : apart (growT σ a) b := by
  cases a with
  | full =>
    intro k hk
    cases hk
    intro e
    subst e
    have := (List.getElem?_eq_some_iff.1 hc).1
    omega
  | own j => exact h
  | none => exact h
  | lit => exact h
theorem canApp_push {tk : Tk} {n e : Nat} {o : AObj} : canApp (σ.push o) tk n e = canApp σ tk n e := by cases tk <;> rfl
theorem canApp_app {tk : Tk} {n e : Nat} {l : List AObj} : canApp (σ.app l) tk n e = canApp σ tk n e := by cases tk <;> rfl
theorem canApp_set {tk : Tk} {n e i : Nat} {o : AObj} : canApp (σ.set i o) tk n e = canApp σ tk n e := by cases tk <;> rfl
/-- What a slice is when its owner is forgotten. -/
def slS {α : Type} (f : α → AV) (l : List α) : AV := if l = [] then .slice .full [] else .slice .none (l.map f)
theorem slS_nil {α : Type} {f : α → AV} : slS f [] = .slice .full [] := rfl
/-- A slice of which one knows: nil, or somebody's. -/
def tkF {α : Type} (l : List α) (tk : Tk) : Prop := (l = [] ∧ tk = .full) ∨ (l ≠ [] ∧ ∃ k, tk = .own k)
theorem strips_leaf {α : Type} {f : α → AV} (h : ∀ x, (f x).strip = f x) : ∀ {l : List α}, AV.strips (l.map f) = l.map f
  | [] => by simp [AV.strips]
  | x :: r => by simp [AV.strips, h x, strips_leaf h (l := r)]
theorem strip_tkF {α : Type} {f : α → AV} (h : ∀ x, (f x).strip = f x) {l : List α} {tk : Tk} (ht : tkF l tk) : (AV.slice tk (l.map f)).strip = slS f l := by
  rcases ht with ⟨rfl, rfl⟩ | ⟨hne, k, rfl⟩
  · simp [slS, AV.strip]
  · simp only [slS, if_neg hne, AV.strip]
    rw [strips_leaf h]
theorem strip_slS {α : Type} {f : α → AV} (h : ∀ x, (f x).strip = f x) {l : List α} : (slS f l).strip = slS f l := by
  unfold slS
  split
  · simp [AV.strip]
  · rename_i hne
    cases l with
    | nil => exact absurd rfl hne
    | cons x r => simp [AV.strip, strips_leaf h, AV.strips, h x]
theorem noRefs_leaf {α : Type} {f : α → AV} (h : ∀ x, (f x).noRef = true) : ∀ {l : List α}, AV.noRefs (l.map f) = true
  | [] => rfl
  | x :: r => by simp [AV.noRefs, h x, noRefs_leaf h (l := r)]
theorem noRef_slS {α : Type} {f : α → AV} (h : ∀ x, (f x).noRef = true) {l : List α} : (slS f l).noRef = true := by
  unfold slS; split
  · rfl
  · simp only [AV.noRef]; exact noRefs_leaf h
theorem slS_tk {α : Type} {f : α → AV} {l : List α} : ∃ tk, slS f l = .slice tk (l.map f) := by
  unfold slS; split
  · rename_i h; subst h; exact ⟨.full, rfl⟩
  · exact ⟨.none, rfl⟩
theorem objs_ext {σ s : AST} {l : List AObj} (h : Ext (σ.app l) s) {k : Nat} (hk : k < l.length) : s.objs[σ.objs.length + k]? = l[k]? := by
  obtain ⟨O, T, rfl⟩ := h
  simp only [AST.app, List.append_assoc]
  rw [List.getElem?_append_right (by omega), show σ.objs.length + k - σ.objs.length = k by omega, List.getElem?_append_left hk]
theorem cell_ext {σ s : AST} {l : List AObj} (h : Ext (σ.app l) s) {k : Nat} {v : AV} (hk : l[k]? = some (.cells v)) (p : List Nat) : cellAt s (σ.objs.length + k) p = v.at p := by
  simp only [cellAt, objs_ext h (List.getElem?_eq_some_iff.1 hk).1, hk, Option.bind_some, objCell]
theorem cell_ext0 {σ s : AST} {l : List AObj} (h : Ext (σ.app l) s) {v : AV} (hk : l[0]? = some (.cells v)) (p : List Nat) : cellAt s σ.objs.length p = v.at p := cell_ext (k := 0) h hk p
attribute [go_sem] shape_agg shapes_nil shapes_cons shape_dig
end Go.Aff

/- Drawn regions, again: what is read ahead of everything that is left behind need not stay. Stores into parts. -/
namespace Go.Aff
set_option linter.unusedVariables false
set_option linter.unusedSimpArgs false

variable {P : Program} {σ σ' : AST} {ops : Array Oper} {τ : Env} {KE : Env → AST → Prop}

/-- What an operation is: 0: it reads, and that must stay; 1: it may leave something behind; 2: it reads, and stands ahead of all that is left behind later. -/
def seqF (P : Program) (ops : Array Oper) : List (Nat × Nat) → List Nat → Env → AST → (Env → AST → Prop) → Prop
  | [], ks, τ, σ, K => K τ σ
  | (i, 1) :: r, ks, τ, σ, K => match gop ops i with
    | none => False
    | some o => stepW P ops o τ σ fun v σ' => keeps ks σ σ' ∧ seqF P ops r ks (τ.putO o.dst v) σ' K
  | (i, 0) :: r, ks, τ, σ, K => match gop ops i with
    | none => False
    | some o => stepW P ops o τ σ fun v σ' => σ' = σ ∧ seqF P ops r (reads (ev τ) o.op ++ ks) (τ.putO o.dst v) σ' K
  | (i, _) :: r, ks, τ, σ, K => match gop ops i with
    | none => False
    | some o => stepW P ops o τ σ fun v σ' => σ' = σ ∧ seqF P ops r ks (τ.putO o.dst v) σ' K

def flagsF (P : Program) (ops : Array Oper) : List (Nat × Nat) → Bool
  | [] => true
  | (i, k) :: r => (match ops[i]? with
    | none => false
    | some o => effO P o == (k == 1)) && (k == 0 || k == 1 || r.all fun y => y.2 != 1 || ahead (anc ops) y.1 i) && flagsF P ops r

def pastF (P : Program) (ops : Array Oper) (ks : List Nat) (past : List (Nat × Env × AV)) (r : List (Nat × Nat)) (σ : AST) : Prop :=
  ∀ x ∈ past, (∀ o, ops[x.1]? = some o → (∀ t, lenOk (x.2.1 t)) ∧ effO P o = false ∧ (∀ k ∈ reads (ev x.2.1) o.op, k ∈ ks) ∧ stepW P ops o x.2.1 σ fun v' σ'' => v' = x.2.2 ∧ σ'' = σ) ∨ (∀ y ∈ r, y.2 = 1 → ahead (anc ops) y.1 x.1 = true)

theorem seqF_awpD : ∀ (l : List (Nat × Nat)) (ks : List Nat) (past : List (Nat × Env × AV)) (τ : Env) (σ : AST), flagsF P ops l = true → pastF P ops ks past l σ → (∀ t, lenOk (τ t)) → seqF P ops l ks τ σ KE → awpD P ops (l.map (·.1)) past τ σ KE
  | [], ks, past, τ, σ, hf, hp, hlen, h => h
  | (i, 1) :: r, ks, past, τ, σ, hf, hp, hlen, h => by
    simp only [seqF] at h
    split at h
    · exact h.elim
    · rename_i o hk
      have hk : ops[i]? = some o := hk
      simp only [flagsF, hk, Bool.and_eq_true, beq_iff_eq] at hf
      have he : effO P o = true := by simpa using hf.1.1
      simp only [List.map_cons, awpD, hk, he, if_true]
      refine stepW_mono (fun v σ' hh => ?_) h
      refine ⟨fun x hx hah o ho => ?_, fun hlv => seqF_awpD r ks past _ _ hf.2 ?_ hlv hh.2⟩
      · rcases hp x hx with h0 | h0
        · obtain ⟨h1, h2, h3, h4⟩ := h0 o ho
          exact step_same h1 h2 (fun k hk => hh.1 k (h3 k hk)) h4
        · rw [h0 (i, 1) (by simp) rfl] at hah; cases hah
      · intro x hx
        rcases hp x hx with h0 | h0
        · left
          intro o ho
          obtain ⟨h1, h2, h3, h4⟩ := h0 o ho
          exact ⟨h1, h2, h3, step_same h1 h2 (fun k hk => hh.1 k (h3 k hk)) h4⟩
        · right
          intro y hy; exact h0 y (List.mem_cons_of_mem _ hy)
  | (i, 0) :: r, ks, past, τ, σ, hf, hp, hlen, h => by
    simp only [seqF] at h
    split at h
    · exact h.elim
    · rename_i o hk
      have hk : ops[i]? = some o := hk
      simp only [flagsF, hk, Bool.and_eq_true, beq_iff_eq] at hf
      have he : effO P o = false := by simpa using hf.1.1
      simp only [List.map_cons, awpD, hk, he, Bool.false_eq_true, if_false]
      obtain ⟨v, hv, hkk⟩ := stepW_det hlen he h
      refine hkk _ fun hlv => seqF_awpD r _ _ _ _ hf.2 ?_ hlv hv.2
      intro x hx
      rcases List.mem_cons.1 hx with rfl | hx
      · left
        intro o' ho'
        dsimp only at ho' ⊢
        rw [hk] at ho'; cases ho'
        exact ⟨hlen, he, fun k hk => List.mem_append_left _ hk, hkk _ ⟨rfl, rfl⟩⟩
      · rcases hp x hx with h0 | h0
        · left
          intro o' ho'
          obtain ⟨h1, h2, h3, h4⟩ := h0 o' ho'
          exact ⟨h1, h2, fun k hk => List.mem_append_right _ (h3 k hk), h4⟩
        · right; intro y hy; exact h0 y (List.mem_cons_of_mem _ hy)
  | (i, n + 2) :: r, ks, past, τ, σ, hf, hp, hlen, h => by
    simp only [seqF] at h
    split at h
    · exact h.elim
    · rename_i o hk
      have hk : ops[i]? = some o := hk
      simp only [flagsF, hk, Bool.and_eq_true, beq_iff_eq] at hf
      have he : effO P o = false := by simpa using hf.1.1
      have hall := hf.1.2
      simp only [List.map_cons, awpD, hk, he, Bool.false_eq_true, if_false]
      obtain ⟨v, hv, hkk⟩ := stepW_det hlen he h
      refine hkk _ fun hlv => seqF_awpD r _ _ _ _ hf.2 ?_ hlv hv.2
      intro x hx
      rcases List.mem_cons.1 hx with rfl | hx
      · right
        intro y hy h1
        have hall : (r.all fun y => y.2 != 1 || ahead (anc ops) y.1 i) = true := by simpa using hall
        rw [List.all_eq_true] at hall
        have := hall y hy
        simpa [h1] using this
      · rcases hp x hx with h0 | h0
        · exact .inl h0
        · right; intro y hy; exact h0 y (List.mem_cons_of_mem _ hy)

theorem awp_drawF {id : Nat} {ops : Array Oper} {Q : Exit → Env → AST → Prop} (ord : List (Nat × Nat)) (ho : (ordOk P ops (ord.map (·.1)) && flagsF P ops ord) = true) (h : seqF P ops ord [] τ σ (Q .normal)) : awp P (.region id ops true) Q τ σ := by
  rw [Bool.and_eq_true] at ho
  exact awp_draw _ ho.1 fun hlen => seqF_awpD ord [] [] τ σ ho.2 (fun x hx => by simp at hx) hlen h

def seqF0 (P : Program) (ops : Array Oper) (o : Option Oper) (r : List (Nat × Nat)) (ks : List Nat) (τ : Env) (σ : AST) (K : Env → AST → Prop) : Prop := match o with
  | none => False
  | some o => stepW P ops o τ σ fun v σ' => σ' = σ ∧ seqF P ops r (reads (ev τ) o.op ++ ks) (τ.putO o.dst v) σ' K
def seqF1 (P : Program) (ops : Array Oper) (o : Option Oper) (r : List (Nat × Nat)) (ks : List Nat) (τ : Env) (σ : AST) (K : Env → AST → Prop) : Prop := match o with
  | none => False
  | some o => stepW P ops o τ σ fun v σ' => keeps ks σ σ' ∧ seqF P ops r ks (τ.putO o.dst v) σ' K
def seqF2 (P : Program) (ops : Array Oper) (o : Option Oper) (r : List (Nat × Nat)) (ks : List Nat) (τ : Env) (σ : AST) (K : Env → AST → Prop) : Prop := match o with
  | none => False
  | some o => stepW P ops o τ σ fun v σ' => σ' = σ ∧ seqF P ops r ks (τ.putO o.dst v) σ' K
variable {ks : List Nat}
theorem seqF_nil : seqF P ops [] ks τ σ KE = KE τ σ := nr rfl
theorem seqF_1 {i : Nat} {r : List (Nat × Nat)} : seqF P ops ((i, 1) :: r) ks τ σ KE = seqF1 P ops (gop ops i) r ks τ σ KE := by simp only [seqF, seqF1]
theorem seqF_0 {i : Nat} {r : List (Nat × Nat)} : seqF P ops ((i, 0) :: r) ks τ σ KE = seqF0 P ops (gop ops i) r ks τ σ KE := by simp only [seqF, seqF0]
theorem seqF_2 {i : Nat} {r : List (Nat × Nat)} : seqF P ops ((i, 2) :: r) ks τ σ KE = seqF2 P ops (gop ops i) r ks τ σ KE := by simp only [seqF, seqF2]
theorem seqF1_some {o : Oper} {r : List (Nat × Nat)} : seqF1 P ops (some o) r ks τ σ KE = stepW P ops o τ σ (@Lam ⟨fun v σ' => @Later ⟨keeps ks σ σ' ∧ seqF P ops r ks (τ.putO o.dst v) σ' KE⟩⟩) := nr rfl
theorem seqF0_some {o : Oper} {r : List (Nat × Nat)} : seqF0 P ops (some o) r ks τ σ KE = stepW P ops o τ σ (@Lam ⟨fun v σ' => σ' = σ ∧ @Later ⟨seqF P ops r (reads (ev τ) o.op ++ ks) (τ.putO o.dst v) σ' KE⟩⟩) := nr rfl
theorem seqF2_some {o : Oper} {r : List (Nat × Nat)} : seqF2 P ops (some o) r ks τ σ KE = stepW P ops o τ σ (@Lam ⟨fun v σ' => σ' = σ ∧ @Later ⟨seqF P ops r ks (τ.putO o.dst v) σ' KE⟩⟩) := nr rfl
attribute [go_sem ↓] seqF_nil seqF_0 seqF_1 seqF_2 seqF0_some seqF1_some seqF2_some
theorem reads_buildSlice {ρ : Operand → AV} {t : TypeId} {n : Nat} {ps : Array (Nat × Operand)} : reads ρ (.buildSlice t n ps) = [] := rfl
attribute [go_sem] reads_buildSlice

theorem res_ct {a b : Nat} {ty : TypeId} {KV : AV → Prop} : resW P [.cell a ty, .tmp b] τ σ KV = loadW P σ ty (τ a) (@LamA _ ⟨fun x => (x.known = true ∧ (τ b).known = true) ∧ @Later ⟨KV (.tuple [x, τ b])⟩⟩) := by
  simp [resW, resList, oneRes, Later, LamA]
theorem res_tc {a b : Nat} {ty : TypeId} {KV : AV → Prop} : resW P [.tmp a, .cell b ty] τ σ KV = loadW P σ ty (τ b) (@LamA _ ⟨fun x => ((τ a).known = true ∧ x.known = true) ∧ @Later ⟨KV (.tuple [τ a, x])⟩⟩) := by
  simp [resW, resList, oneRes, Later, LamA]
attribute [go_sem ↓] res_ct res_tc
theorem growS_app {tk : Tk} {n e : Nat} {l : List AObj} : growS (σ.app l) tk n e = (growS σ tk n e).app l := by cases tk <;> rfl
theorem growT_app {tk : Tk} {l : List AObj} : growT (σ.app l) tk = growT σ tk := by cases tk <;> rfl
/-! ### Stores into parts -/
def setAtO (ps : List AV) (i : Nat) (p : List Nat) (x : AV) : Option AV → AV
  | some v => .agg (ps.set i (v.setAt p x))
  | none => .agg ps
theorem setAt_agg {ps : List AV} {i : Nat} {p : List Nat} {x : AV} : (AV.agg ps).setAt (i :: p) x = setAtO ps i p x ps[i]? := by
  simp only [AV.setAt]; cases ps[i]? <;> rfl
theorem setAtO_some {ps : List AV} {i : Nat} {p : List Nat} {x v : AV} : setAtO ps i p x (some v) = .agg (ps.set i (v.setAt p x)) := rfl
def setOkO (p : List Nat) (x : AV) : Option AV → Prop
  | some v => setOk v p x
  | none => True
theorem setOk_agg {ps : List AV} {i : Nat} {p : List Nat} {x : AV} : setOk (.agg ps) (i :: p) x = setOkO p x ps[i]? := by
  simp only [setOk, eq_iff_iff]
  cases h : ps[i]? with
  | none => simp [setOkO]
  | some v => simp [setOkO]
theorem setOkO_some {p : List Nat} {x v : AV} : setOkO p x (some v) = setOk v p x := rfl
attribute [go_sem] setAt_agg setAtO_some setOk_agg setOkO_some
end Go.Aff

/- Walking: pointers compared, digests compared, arrays of anything in memory, slices of them, states known by their cells. -/
namespace Go.Aff
set_option linter.unusedVariables false
set_option linter.unusedSimpArgs false

variable {τ : Env} {P : Program} {σ σ' : AST} {K : AV → AST → Prop} {KV : AV → Prop} {KS : AST → Prop}

def isPtrT (P : Program) (t : TypeId) : Bool := match P.underlying t with | some (.pointer _) => true | _ => false
theorem isPtrT_iff {t : TypeId} (h : isPtrT P t = true) : ∃ a, P.underlying t = some (.pointer a) := by
  unfold isPtrT at h; split at h
  · exact ⟨_, by assumption⟩
  · cases h
theorem bin_ptr_eql {t : TypeId} (hu : isPtrT P t = true) {p : Option (Nat × List Nat)} : binW P .eql t (.ptr p) (.ptr none) KV = KV (.bool p.isNone) := by
  obtain ⟨a, h⟩ := isPtrT_iff hu
  cases p <;> simp [binW, eqW, eqA, h]
theorem bin_ptr_neq {t : TypeId} (hu : isPtrT P t = true) {p : Option (Nat × List Nat)} : binW P .neq t (.ptr p) (.ptr none) KV = KV (.bool !p.isNone) := by
  obtain ⟨a, h⟩ := isPtrT_iff hu
  cases p <;> simp [binW, eqW, eqA, h]

def digT (P : Program) (t : TypeId) : Bool := !P.eqGuardType P.depth t && match P.underlying t with | some (.array 32 e) => isU8 P e && P.cellsOf e == 1 | _ => false
theorem digT_iff {t : TypeId} (h : digT P t = true) : P.eqGuardType P.depth t = false ∧ ∃ e, P.underlying t = some (.array 32 e) ∧ isU8 P e = true ∧ P.cellsOf e = 1 := by
  unfold digT at h
  simp only [Bool.and_eq_true, Bool.not_eq_true'] at h
  obtain ⟨h1, h2⟩ := h
  split at h2
  · rename_i e he
    simp only [Bool.and_eq_true, beq_iff_eq] at h2
    exact ⟨h1, e, he, h2.1, h2.2⟩
  · cases h2
theorem bin_dig_eql {t : TypeId} (hu : digT P t = true) {a b : Dig} : binW P .eql t (.dig a) (.dig b) KV = KV (.bool (a.l == b.l)) := by
  obtain ⟨h1, e, h2, h3, h4⟩ := digT_iff hu
  simp [binW, eqW, eqA, h1, h2, h3, h4]
theorem bin_dig_neq {t : TypeId} (hu : digT P t = true) {a b : Dig} : binW P .neq t (.dig a) (.dig b) KV = KV (.bool !(a.l == b.l)) := by
  obtain ⟨h1, e, h2, h3, h4⟩ := digT_iff hu
  simp [binW, eqW, eqA, h1, h2, h3, h4]
theorem nilCheck_some {q : Nat × List Nat} : nilCheckW (.ptr (some q)) KV = KV (.ptr (some q)) := nr rfl
theorem cellAt_known {j : Nat} {v : AV} (h : σ.objs[j]? = some (.cells v)) (p : List Nat) : cellAt σ j p = v.at p := by simp only [cellAt, h, Option.bind_some, objCell]
theorem cellAt_known_app {j : Nat} {v : AV} (h : σ.objs[j]? = some (.cells v)) (p : List Nat) (d : List AObj) : cellAt (σ.app d) j p = v.at p := by
  have hj : j < σ.objs.length := (List.getElem?_eq_some_iff.1 h).1
  simp only [cellAt, AST.app, List.getElem?_append_left hj, h, Option.bind_some, objCell]
theorem objs_known_app {j : Nat} {o : AObj} (h : σ.objs[j]? = some o) (d : List AObj) : (σ.app d).objs[j]? = some o := by
  have hj : j < σ.objs.length := (List.getElem?_eq_some_iff.1 h).1
  simp only [AST.app, List.getElem?_append_left hj, h]
theorem objs_known_ext {j : Nat} {o : AObj} (h : σ.objs[j]? = some o) (hx : Ext σ σ') : σ'.objs[j]? = some o := by
  obtain ⟨O, T, rfl⟩ := hx
  have hj : j < σ.objs.length := (List.getElem?_eq_some_iff.1 h).1
  simp only [List.getElem?_append_left hj, h]
theorem cellAt_known_ext {j : Nat} {v : AV} (h : σ.objs[j]? = some (.cells v)) (hx : Ext σ σ') (p : List Nat) : cellAt σ' j p = v.at p := cellAt_known (objs_known_ext h hx) p
theorem keeps_none : keeps [] σ σ' = True := by simp only [eq_iff_iff, iff_true]; exact keeps_nil
theorem reads_nilCheck {ρ : Operand → AV} {x : Operand} : reads ρ (.nilCheck x) = [] := rfl
theorem keeps_app {ks : List Nat} {a b : List AObj} (h : ∀ k ∈ ks, k < σ.objs.length) : keeps ks (σ.app a) (σ.app b) := fun k hk => by
  simp only [AST.app]; rw [List.getElem?_append_left (h k hk), List.getElem?_append_left (h k hk)]
theorem keeps_push {ks : List Nat} {o : AObj} (h : ∀ k ∈ ks, k < σ.objs.length) : keeps ks σ (σ.push o) := fun k hk => by
  simp only [AST.push]; rw [List.getElem?_append_left (h k hk)]
attribute [go_sem] reads_nilCheck keeps_none nilCheck_some isPtrT bin_ptr_eql bin_ptr_neq Option.isNone_some Option.isNone_none

theorem sizes_all {c : Nat} : ∀ {l : List AV}, (∀ v ∈ l, v.size = c) → AV.sizes l = l.length * c
  | [], _ => by simp [AV.sizes]
  | v :: r, h => by
    have h1 := h v (by simp)
    have h2 := sizes_all (l := r) fun x hx => h x (by simp [hx])
    simp only [AV.sizes, h1, h2, List.length_cons, Nat.succ_mul]; omega

/-- A place of an array in memory. -/
theorem indexAddr_arr {t e n c : Nat} {j : Nat} {p : List Nat} {xs : List AV} {i : Nat} {x : AV} {q : IntKind} (hu : P.underlying t = some (.array n e)) (hc : P.cellsOf e = c) (hl : xs.length = n) (hs : ∀ v ∈ xs, v.size = c)
    (ho : cellAt σ j p = some (.agg xs)) (hi : xs[i]? = some x) (hf : fits P e x) (hK : KV (.ptr (some (j, p ++ [i])))) : indexAddrW P σ t (.ptr (some (j, p))) (.int q i) KV := by
  have hin : i < n := by rw [← hl]; exact (List.getElem?_eq_some_iff.1 hi).1
  have hpl : placeOf P t i = some (i * c, e) := by
    unfold placeOf
    rw [hu]; simp only; rw [if_pos hin, hc]
  have hsz : AV.sizes (xs.take i) = i * c := by
    rw [sizes_all (c := c) fun v hv => hs v (List.mem_of_mem_take hv), List.length_take, Nat.min_eq_left (by omega)]
  simp only [cellAt, Option.bind_eq_some_iff] at ho
  obtain ⟨o, h1, h2⟩ := ho
  cases o with
  | cells v =>
    simp only [objCell] at h2
    simp only [indexAddrW, h1, h2]
    refine ⟨by omega, by omega, fun z hz => ?_⟩
    simp only [Int.toNat_natCast] at hz ⊢
    rw [hi] at hz; cases hz
    refine ⟨⟨e, ?_, hf⟩, ⟨e, by rw [hl]; exact hu⟩, hK⟩
    rw [hpl, hsz]
  | _ => simp [objCell] at h2

/-- A place of a digest in memory. -/
theorem indexAddr_dig {t e : TypeId} {j : Nat} {p : List Nat} {d : Dig} {i : Nat} {q : IntKind} (hu : P.underlying t = some (.array 32 e)) (hf : fits P e (.int .u8 0)) (ho : cellAt σ j p = some (.dig d)) (hi : i < 32) (hK : KV (.ptr (some (j, p ++ [i])))) :
    indexAddrW P σ t (.ptr (some (j, p))) (.int q i) KV := by
  simp only [cellAt, Option.bind_eq_some_iff] at ho
  obtain ⟨o, h1, h2⟩ := ho
  cases o with
  | cells v =>
    simp only [objCell] at h2
    simp only [indexAddrW, h1, h2]
    refine ⟨by omega, by rw [d.h]; omega, fun z hz => ?_⟩
    exact ⟨⟨e, hu, hf⟩, by rw [Int.toNat_natCast]; exact hK⟩
  | _ => simp [objCell] at h2
theorem at_dig1 {d : Dig} {i : Nat} : (AV.dig d).at [i] = (d.l[i]?).map fun b => .int .u8 b.toNat := rfl
/-- A place of a slice of an array in memory. -/
theorem indexAddr_part {t e m c : Nat} {j : Nat} {p : List Nat} {xs : List AV} {i : Nat} {x : AV} {q : IntKind} (hu : P.underlying t = some (.slice e)) (hc : P.cellsOf e = c) (hm : m ≤ xs.length) (hs : ∀ v ∈ xs, v.size = c) (him : i < m)
    (ho : cellAt σ j p = some (.agg xs)) (hi : xs[i]? = some x) (hf : fits P e x) (hK : KV (.ptr (some (j, p ++ [i])))) : indexAddrW P σ t (.arr j p m) (.int q i) KV := by
  have hsz : AV.sizes (xs.take i) = i * c := by
    rw [sizes_all (c := c) fun v hv => hs v (List.mem_of_mem_take hv), List.length_take, Nat.min_eq_left (by omega)]
  simp only [cellAt, Option.bind_eq_some_iff] at ho
  obtain ⟨o, h1, h2⟩ := ho
  cases o with
  | cells v =>
    simp only [objCell] at h2
    simp only [indexAddrW, h1, h2]
    refine ⟨e, hu, hm, by rw [Int.toNat_natCast, hsz, hc], by omega, by rw [List.length_take]; omega, fun z hz => ?_⟩
    simp only [Int.toNat_natCast] at hz ⊢
    rw [List.getElem?_take, if_pos him, hi] at hz; cases hz
    exact ⟨hf, hK⟩
  | _ => simp [objCell] at h2
/-- An array in memory, sliced. -/
theorem slice_arr {t e n h : Nat} {j : Nat} {p : List Nat} {q : IntKind} (hu : P.underlying t = some (.array n e)) (hn : n ≤ maxL) (he : ∃ d, P.underlying e = some d) (hh : h ≤ n) (hK : KV (.arr j p h)) :
    sliceW P t (.ptr (some (j, p))) none (some (.int q h)) none KV := by
  refine ⟨e, n, .inr hu, hn, he, rfl, rfl, by omega, ?_⟩
  simp only [Int.toNat_natCast]; exact ⟨hh, hK⟩

theorem mm_min {k : IntKind} {a b : Int} : mmW false [.int k a, .int k b] KV = KV (.int k (min a b)) := by simp [mmW]
attribute [go_sem] mm_min
theorem res_ttc {a b c : Nat} {ty : TypeId} : resW P [.tmp a, .tmp b, .cell c ty] τ σ KV = loadW P σ ty (τ c) (@LamA _ ⟨fun x => ((τ a).known = true ∧ (τ b).known = true ∧ x.known = true) ∧ @Later ⟨KV (.tuple [τ a, τ b, x])⟩⟩) := by
  simp [resW, resList, oneRes, Later, LamA]
theorem res_ttt {a b c : Nat} : resW P [.tmp a, .tmp b, .tmp c] τ σ KV = (((τ a).known = true ∧ (τ b).known = true ∧ (τ c).known = true) ∧ @Later ⟨KV (.tuple [τ a, τ b, τ c])⟩) := by
  simp [resW, resList, oneRes, Later, LamA]
attribute [go_sem ↓] res_ttc
end Go.Aff

/- Walking: an owner of one's own that grows. -/
namespace Go.Aff
set_option linter.unusedVariables false

variable {P : Program} {σ s : AST} {tk : Tk} {K : AV → AST → Prop}

/-- Behind σ, with an owner that was not there, who has n elements of e cells. -/
structure Gr (σ s : AST) (tk : Tk) (n : Nat) (e : Nat := 1) : Prop where
  x : Ext σ s
  t : tkNew σ tk
  c : canApp s tk n e
theorem Gr.start {n e : Nat} : Gr σ σ .full n e := ⟨Ext.refl _, .inl rfl, trivial⟩
theorem Gr.start' {n e : Nat} (h : Ext σ s) : Gr σ s .full n e := ⟨h, .inl rfl, trivial⟩
theorem Gr.grow {n m e : Nat} (h : Gr σ s tk n e) : Gr σ (growS s tk m e) (growT s tk) m e := ⟨h.x.grow h.t, h.t.grow h.x, canApp_grow h.c⟩
theorem Gr.app {n e : Nat} {l : List AObj} (h : Gr σ s tk n e) : Gr σ (s.app l) tk n e := ⟨h.x.trans (Ext.app _ _), h.t, by rw [canApp_app]; exact h.c⟩
theorem Gr.set {σ s : AST} {tk : Tk} {n e i : Nat} {o : AObj} (h : Gr σ s tk n e) (hi : σ.objs.length ≤ i) : Gr σ (s.set i o) tk n e := ⟨h.x.set hi, h.t, by rw [canApp_set]; exact h.c⟩
theorem canApp_of {n m e : Nat} (h : canApp s tk n e) (hm : m = n) : canApp s tk m e := by subst hm; exact h
theorem growS_objs {n e : Nat} : (growS σ tk n e).objs = σ.objs := by cases tk <;> rfl

/-! ### Parts put in, by rewriting -/
variable {KV : AV → Prop}
def fillE (P : Program) (t : TypeId) (ps : List AV) (u : Option AV) (i : Nat) (x : AV) (r : List (Nat × AV)) (K : AV → Prop) : Prop := match u with
  | some u => partIs P t ps i x ∧ u.shape = x.shape ∧ x.known = true ∧ fillW P t r (.agg (ps.set i x)) K
  | none => False
theorem fill_agg {t : TypeId} {i : Nat} {x : AV} {r : List (Nat × AV)} {ps : List AV} : fillW P t ((i, x) :: r) (.agg ps) KV = fillE P t ps ps[i]? i x r KV := by
  rw [fillW.eq_2]
  cases h : ps[i]? with
  | none => simp [fillE]
  | some u => simp [fillE]
theorem fillE_some {t : TypeId} {i : Nat} {x u : AV} {r : List (Nat × AV)} {ps : List AV} : fillE P t ps (some u) i x r KV = ((partIs P t ps i x ∧ u.shape = x.shape ∧ x.known = true) ∧ @Later ⟨fillW P t r (.agg (ps.set i x)) KV⟩) := by
  simp [fillE, Later, and_assoc]
theorem fill_nil' {t : TypeId} {v : AV} : fillW P t [] v KV = KV v := by cases v <;> rfl
attribute [go_sem] fill_agg fillE_some fill_nil'
end Go.Aff

/- Drawn regions by trees of orders. -/
namespace Go.Aff
set_option linter.unusedVariables false
set_option linter.unusedSimpArgs false

variable {P : Program} {σ σ' : AST} {ops : Array Oper} {τ : Env} {KE : Env → AST → Prop}

/-- Orders with a word on each operation: 0: it reads, and that must stay; 1: it may leave something behind; 2: it reads, and stands ahead of all from the first on that leaves something behind; 3: it leaves nothing behind. -/
inductive Tf where
  | nil
  | op (i k : Nat) (r : Tf)
  | fork (e : Nat) (a b : Tf)
def Tf.tr : Tf → Tr
  | .nil => .nil
  | .op i _ r => .op i r.tr
  | .fork e a b => .fork e a.tr b.tr
def Tf.all : Tf → List Nat
  | .nil => []
  | .op i k r => if k = 1 ∨ k = 3 then i :: r.all else r.all
  | .fork _ a b => a.all ++ b.all
/-- Those from the first on that may leave something behind. -/
def Tf.effs : Tf → List Nat
  | .nil => []
  | .op i k r => if k = 1 then i :: r.all else r.effs
  | .fork _ a b => a.effs ++ b.effs
theorem Tf.effs_all : ∀ {T : Tf} {x : Nat}, x ∈ T.effs → x ∈ T.all
  | .nil, x, h => h
  | .op i k r, x, h => by
    simp only [Tf.effs] at h
    simp only [Tf.all]
    split at h
    · rename_i hk; rw [if_pos (.inl hk)]; exact h
    · have := Tf.effs_all h
      split
      · exact List.mem_cons_of_mem _ this
      · exact this
  | .fork _ a b, x, h => by
    simp only [Tf.effs, Tf.all, List.mem_append] at h ⊢
    exact h.imp Tf.effs_all Tf.effs_all

def seqT (P : Program) (ops : Array Oper) : Tf → List Nat → Env → AST → (Env → AST → Prop) → Prop
  | .nil, ks, τ, σ, K => K τ σ
  | .op i 1 r, ks, τ, σ, K => match gop ops i with
    | none => False
    | some o => stepW P ops o τ σ fun v σ' => keeps ks σ σ' ∧ seqT P ops r ks (τ.putO o.dst v) σ' K
  | .op i 0 r, ks, τ, σ, K => match gop ops i with
    | none => False
    | some o => stepW P ops o τ σ fun v σ' => σ' = σ ∧ seqT P ops r (reads (ev τ) o.op ++ ks) (τ.putO o.dst v) σ' K
  | .op i _ r, ks, τ, σ, K => match gop ops i with
    | none => False
    | some o => stepW P ops o τ σ fun v σ' => σ' = σ ∧ seqT P ops r ks (τ.putO o.dst v) σ' K
  | .fork _ a b, ks, τ, σ, K => seqT P ops a ks τ σ K ∧ seqT P ops b ks τ σ K

def flagsT (P : Program) (ops : Array Oper) : Tf → Bool
  | .nil => true
  | .op i k r => (match ops[i]? with
    | none => false
    | some o => effO P o == (k == 1 || k == 3)) && (k == 0 || k == 1 || k == 3 || r.effs.all fun y => ahead (anc ops) y i) && flagsT P ops r
  | .fork _ a b => flagsT P ops a && flagsT P ops b

def validT (P : Program) (ops : Array Oper) (x : Nat × Env × AV) (σ : AST) : Prop := ∀ o, ops[x.1]? = some o → (∀ t, lenOk (x.2.1 t)) ∧ effO P o = false ∧ stepW P ops o x.2.1 σ fun v' σ'' => v' = x.2.2 ∧ σ'' = σ
def pastT (P : Program) (ops : Array Oper) (ks : List Nat) (past : List (Nat × Env × AV)) (T : Tf) (σ : AST) : Prop :=
  ∀ x ∈ past, (validT P ops x σ ∧ ∀ o, ops[x.1]? = some o → ∀ k ∈ reads (ev x.2.1) o.op, k ∈ ks) ∨ (validT P ops x σ ∧ ∀ y ∈ T.effs, ahead (anc ops) y x.1 = true) ∨ (∀ y ∈ T.all, ahead (anc ops) y x.1 = true)

theorem seqT_pure (i k : Nat) (r : Tf) (ks : List Nat) (past : List (Nat × Env × AV)) (τ : Env) (σ : AST) (k0 : k ≠ 0) (k1 : k ≠ 1) (k3 : k ≠ 3)
    (ih : ∀ (past' : List (Nat × Env × AV)) (τ' : Env), flagsT P ops r = true → pastT P ops ks past' r σ → (∀ t, lenOk (τ' t)) → seqT P ops r ks τ' σ KE → awpT P ops r.tr past' τ' σ KE)
    (hf : flagsT P ops (.op i k r) = true) (hp : pastT P ops ks past (.op i k r) σ) (hlen : ∀ t, lenOk (τ t))
    (h : match gop ops i with
      | none => False
      | some o => stepW P ops o τ σ fun v σ' => σ' = σ ∧ seqT P ops r ks (τ.putO o.dst v) σ' KE) : awpT P ops (Tf.op i k r).tr past τ σ KE := by
  split at h
  · exact h.elim
  · rename_i o hk
    have hk : ops[i]? = some o := hk
    simp only [flagsT, hk, Bool.and_eq_true, beq_iff_eq] at hf
    have b0 : (k == 0) = false := by simpa using k0
    have b1 : (k == 1) = false := by simpa using k1
    have b3 : (k == 3) = false := by simpa using k3
    rw [b0, b1, b3] at hf
    have he : effO P o = false := by simpa using hf.1.1
    have hall : (r.effs.all fun y => ahead (anc ops) y i) = true := by simpa using hf.1.2
    rw [List.all_eq_true] at hall
    simp only [Tf.tr, awpT, hk, he, Bool.false_eq_true, if_false]
    obtain ⟨v, hv, hkk⟩ := stepW_det hlen he h
    refine hkk _ fun hlv => ih _ _ hf.2 ?_ hlv hv.2
    intro x hx
    rcases List.mem_cons.1 hx with rfl | hx
    · right; left
      refine ⟨fun o' ho' => ?_, hall⟩
      dsimp only at ho' ⊢
      rw [hk] at ho'; cases ho'
      exact ⟨hlen, he, hkk _ ⟨rfl, rfl⟩⟩
    · rcases hp x hx with ⟨h0, h1⟩ | ⟨h0, h1⟩ | h0
      · exact .inl ⟨h0, h1⟩
      · exact .inr (.inl ⟨h0, fun y hy => h1 y (by simpa [Tf.effs, k1] using hy)⟩)
      · exact .inr (.inr fun y hy => h0 y (by simpa [Tf.all, k1, k3] using hy))
theorem seqT_awpT : ∀ (T : Tf) (ks : List Nat) (past : List (Nat × Env × AV)) (τ : Env) (σ : AST), flagsT P ops T = true → pastT P ops ks past T σ → (∀ t, lenOk (τ t)) → seqT P ops T ks τ σ KE → awpT P ops T.tr past τ σ KE
  | .nil, ks, past, τ, σ, hf, hp, hlen, h => h
  | .fork e a b, ks, past, τ, σ, hf, hp, hlen, h => by
    simp only [flagsT, Bool.and_eq_true] at hf
    simp only [seqT] at h
    refine ⟨seqT_awpT a ks past τ σ hf.1 (fun x hx => ?_) hlen h.1, seqT_awpT b ks past τ σ hf.2 (fun x hx => ?_) hlen h.2⟩
    · rcases hp x hx with h | ⟨h1, h2⟩ | h
      · exact .inl h
      · exact .inr (.inl ⟨h1, fun y hy => h2 y (by simp [Tf.effs, hy])⟩)
      · exact .inr (.inr fun y hy => h y (by simp [Tf.all, hy]))
    · rcases hp x hx with h | ⟨h1, h2⟩ | h
      · exact .inl h
      · exact .inr (.inl ⟨h1, fun y hy => h2 y (by simp [Tf.effs, hy])⟩)
      · exact .inr (.inr fun y hy => h y (by simp [Tf.all, hy]))
  | .op i 1 r, ks, past, τ, σ, hf, hp, hlen, h => by
    simp only [seqT] at h
    split at h
    · exact h.elim
    · rename_i o hk
      have hk : ops[i]? = some o := hk
      simp only [flagsT, hk, Bool.and_eq_true, beq_iff_eq] at hf
      have he : effO P o = true := by simpa using hf.1.1
      simp only [Tf.tr, awpT, hk, he, if_true]
      refine stepW_mono (fun v σ' hh => ?_) h
      refine ⟨fun x hx hah o ho => ?_, fun hlv => seqT_awpT r ks past _ _ hf.2 ?_ hlv hh.2⟩
      · rcases hp x hx with ⟨h0, h3⟩ | ⟨_, h0⟩ | h0
        · obtain ⟨h1, h2, h4⟩ := h0 o ho
          exact step_same h1 h2 (fun k hk => hh.1 k (h3 o ho k hk)) h4
        · rw [h0 i (by simp [Tf.effs])] at hah; cases hah
        · rw [h0 i (by simp [Tf.all])] at hah; cases hah
      · intro x hx
        rcases hp x hx with ⟨h0, h3⟩ | ⟨_, h0⟩ | h0
        · left
          refine ⟨fun o ho => ?_, h3⟩
          obtain ⟨h1, h2, h4⟩ := h0 o ho
          exact ⟨h1, h2, step_same h1 h2 (fun k hk => hh.1 k (h3 o ho k hk)) h4⟩
        · right; right
          intro y hy; exact h0 y (by simp [Tf.effs, hy])
        · right; right
          intro y hy; exact h0 y (by simp [Tf.all, hy])
  | .op i 3 r, ks, past, τ, σ, hf, hp, hlen, h => by
    simp only [seqT] at h
    split at h
    · exact h.elim
    · rename_i o hk
      have hk : ops[i]? = some o := hk
      simp only [flagsT, hk, Bool.and_eq_true, beq_iff_eq] at hf
      have he : effO P o = true := by simpa using hf.1.1
      simp only [Tf.tr, awpT, hk, he, if_true]
      refine stepW_mono (fun v σ' hh => ?_) h
      obtain ⟨rfl, hh⟩ := hh
      refine ⟨fun x hx hah o ho => ?_, fun hlv => seqT_awpT r ks past _ _ hf.2 ?_ hlv hh⟩
      · rcases hp x hx with ⟨h0, h3⟩ | ⟨h0, _⟩ | h0
        · exact (h0 o ho).2.2
        · exact (h0 o ho).2.2
        · rw [h0 i (by simp [Tf.all])] at hah; cases hah
      · intro x hx
        rcases hp x hx with h0 | ⟨h0, h1⟩ | h0
        · exact .inl h0
        · exact .inr (.inl ⟨h0, fun y hy => h1 y (by simpa [Tf.effs] using hy)⟩)
        · exact .inr (.inr fun y hy => h0 y (by simp [Tf.all, hy]))
  | .op i 0 r, ks, past, τ, σ, hf, hp, hlen, h => by
    simp only [seqT] at h
    split at h
    · exact h.elim
    · rename_i o hk
      have hk : ops[i]? = some o := hk
      simp only [flagsT, hk, Bool.and_eq_true, beq_iff_eq] at hf
      have he : effO P o = false := by simpa using hf.1.1
      simp only [Tf.tr, awpT, hk, he, Bool.false_eq_true, if_false]
      obtain ⟨v, hv, hkk⟩ := stepW_det hlen he h
      refine hkk _ fun hlv => seqT_awpT r _ _ _ _ hf.2 ?_ hlv hv.2
      intro x hx
      rcases List.mem_cons.1 hx with rfl | hx
      · left
        refine ⟨fun o' ho' => ?_, fun o' ho' k hkr => ?_⟩
        · dsimp only at ho' ⊢
          rw [hk] at ho'; cases ho'
          exact ⟨hlen, he, hkk _ ⟨rfl, rfl⟩⟩
        · dsimp only at ho' hkr
          rw [hk] at ho'; cases ho'
          exact List.mem_append_left _ hkr
      · rcases hp x hx with ⟨h0, h1⟩ | ⟨h0, h1⟩ | h0
        · exact .inl ⟨h0, fun o' ho' k hkr => List.mem_append_right _ (h1 o' ho' k hkr)⟩
        · exact .inr (.inl ⟨h0, fun y hy => h1 y (by simpa [Tf.effs] using hy)⟩)
        · exact .inr (.inr fun y hy => h0 y (by simpa [Tf.all] using hy))
  | .op i 2 r, ks, past, τ, σ, hf, hp, hlen, h => seqT_pure i 2 r ks past τ σ (by decide) (by decide) (by decide) (fun past' K' h1 h2 h3 h4 => seqT_awpT r ks past' _ σ h1 h2 h3 h4) hf hp hlen (by simpa only [seqT] using h)
  | .op i (n + 4) r, ks, past, τ, σ, hf, hp, hlen, h => seqT_pure i (n + 4) r ks past τ σ (by omega) (by omega) (by omega) (fun past' K' h1 h2 h3 h4 => seqT_awpT r ks past' _ σ h1 h2 h3 h4) hf hp hlen (by simpa only [seqT] using h)

theorem awp_drawT {id : Nat} {ops : Array Oper} {Q : Exit → Env → AST → Prop} (T : Tf) (ho : (trOk P ops T.tr && flagsT P ops T) = true) (h : seqT P ops T [] τ σ (Q .normal)) : awp P (.region id ops true) Q τ σ := by
  rw [Bool.and_eq_true] at ho
  exact awp_drawTree _ ho.1 fun hlen => seqT_awpT T [] [] τ σ ho.2 (fun x hx => by simp at hx) hlen h

def seqT0 (P : Program) (ops : Array Oper) (o : Option Oper) (r : Tf) (ks : List Nat) (τ : Env) (σ : AST) (K : Env → AST → Prop) : Prop := match o with
  | none => False
  | some o => stepW P ops o τ σ fun v σ' => σ' = σ ∧ seqT P ops r (reads (ev τ) o.op ++ ks) (τ.putO o.dst v) σ' K
def seqT1 (P : Program) (ops : Array Oper) (o : Option Oper) (r : Tf) (ks : List Nat) (τ : Env) (σ : AST) (K : Env → AST → Prop) : Prop := match o with
  | none => False
  | some o => stepW P ops o τ σ fun v σ' => keeps ks σ σ' ∧ seqT P ops r ks (τ.putO o.dst v) σ' K
def seqT2 (P : Program) (ops : Array Oper) (o : Option Oper) (r : Tf) (ks : List Nat) (τ : Env) (σ : AST) (K : Env → AST → Prop) : Prop := match o with
  | none => False
  | some o => stepW P ops o τ σ fun v σ' => σ' = σ ∧ seqT P ops r ks (τ.putO o.dst v) σ' K
variable {ks : List Nat}
theorem seqT_nil : seqT P ops .nil ks τ σ KE = KE τ σ := nr rfl
theorem seqT_1 {i : Nat} {r : Tf} : seqT P ops (.op i 1 r) ks τ σ KE = seqT1 P ops (gop ops i) r ks τ σ KE := by simp only [seqT, seqT1]
theorem seqT_0 {i : Nat} {r : Tf} : seqT P ops (.op i 0 r) ks τ σ KE = seqT0 P ops (gop ops i) r ks τ σ KE := by simp only [seqT, seqT0]
theorem seqT_3 {i : Nat} {r : Tf} : seqT P ops (.op i 3 r) ks τ σ KE = seqT2 P ops (gop ops i) r ks τ σ KE := by simp only [seqT, seqT2]
theorem seqT_2 {i : Nat} {r : Tf} : seqT P ops (.op i 2 r) ks τ σ KE = seqT2 P ops (gop ops i) r ks τ σ KE := by simp only [seqT, seqT2]
structure Both (A B : Prop) : Prop where
  l : A
  r : B
theorem seqT_fork {e : Nat} {a b : Tf} : seqT P ops (.fork e a b) ks τ σ KE = Both (@Later ⟨seqT P ops a ks τ σ KE⟩) (@Later ⟨seqT P ops b ks τ σ KE⟩) := by
  simp only [seqT, Later, eq_iff_iff]
  exact ⟨fun h => ⟨h.1, h.2⟩, fun h => ⟨h.l, h.r⟩⟩
theorem both_ways {A B : Prop} (ha : A) (hb : B) : Both (@Later ⟨A⟩) (@Later ⟨B⟩) := ⟨ha, hb⟩
theorem seqT1_some {o : Oper} {r : Tf} : seqT1 P ops (some o) r ks τ σ KE = stepW P ops o τ σ (@Lam ⟨fun v σ' => @Later ⟨keeps ks σ σ' ∧ seqT P ops r ks (τ.putO o.dst v) σ' KE⟩⟩) := nr rfl
theorem seqT0_some {o : Oper} {r : Tf} : seqT0 P ops (some o) r ks τ σ KE = stepW P ops o τ σ (@Lam ⟨fun v σ' => σ' = σ ∧ @Later ⟨seqT P ops r (reads (ev τ) o.op ++ ks) (τ.putO o.dst v) σ' KE⟩⟩) := nr rfl
theorem seqT2_some {o : Oper} {r : Tf} : seqT2 P ops (some o) r ks τ σ KE = stepW P ops o τ σ (@Lam ⟨fun v σ' => σ' = σ ∧ @Later ⟨seqT P ops r ks (τ.putO o.dst v) σ' KE⟩⟩) := nr rfl
attribute [go_sem ↓] seqT_nil seqT_0 seqT_1 seqT_2 seqT_3 seqT_fork seqT0_some seqT1_some seqT2_some
end Go.Aff

