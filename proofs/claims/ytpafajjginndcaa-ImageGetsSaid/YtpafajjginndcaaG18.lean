import Derived.Test.YtpafajjginndcaaG17
import Derived.Test.YtpafajjginndcaaG14
import Derived.Test.YtpafajjginndcaaG16

/- Walking: structs as elements, arrays as values, two owners at once. -/
namespace Go.Aff
set_option linter.unusedVariables false
set_option linter.unusedSimpArgs false

variable {P : Program} {σ σ' : AST} {K : AV → AST → Prop} {KV : AV → Prop} {KS : AST → Prop}

theorem fits_agg {t n : Nat} (ha : aggT P t = some true) (hc : P.cellsOf t = n) {v : AV} : fits P t v = (v.isAgg = true ∧ v.size = n) := by
  unfold fits
  rw [ha, hc, eq_iff_iff]
  constructor
  · rintro ⟨h1, h2⟩; exact ⟨(Option.some.inj h1).symm, h2.symm⟩
  · rintro ⟨h1, h2⟩; exact ⟨by rw [h1], h2.symm⟩
theorem shape_agg {ps : List AV} : (AV.agg ps).shape = .node (AV.shapes ps) := by simp [AV.shape]
theorem shapes_nil : AV.shapes [] = [] := rfl
theorem shapes_cons {p : AV} {r : List AV} : AV.shapes (p :: r) = p.shape :: AV.shapes r := by simp [AV.shapes]
theorem shape_dig {d : Dig} : (AV.dig d).shape = .dig := by simp [AV.shape]
theorem fill_nil {t : TypeId} {v : AV} : fillW P t [] v KV = KV v := by cases v <;> rfl
theorem fill_cons {t : TypeId} {i : Nat} {x : AV} {r : List (Nat × AV)} {ps : List AV} {u : AV} (hu : ps[i]? = some u) (h1 : partIs P t ps i x) (h2 : u.shape = x.shape) (h3 : x.known = true) (hK : fillW P t r (.agg (ps.set i x)) KV) :
    fillW P t ((i, x) :: r) (.agg ps) KV := by
  unfold fillW
  exact ⟨u, hu, h1, h2, h3, hK⟩
/-- An array of texts, as a value. -/
theorem index_strs {t e n : Nat} {xs : List (List UInt8)} {i : Nat} {x : List UInt8} {q : IntKind} (hu : P.underlying t = some (.array n e)) (ha : aggT P e = some false) (hc : P.cellsOf e = 1) (hl : xs.length = n) (hi : xs[i]? = some x) (hK : KV (.str x)) :
    indexW P t (.agg (xs.map AV.str)) (.int q i) KV := by
  have hin : i < n := by rw [← hl]; exact (List.getElem?_eq_some_iff.1 hi).1
  have hsz : ∀ l : List (List UInt8), AV.sizes (l.map AV.str) = l.length := by
    intro l
    induction l with
    | nil => rfl
    | cons a r ih => simp only [List.map_cons, AV.sizes, AV.size, ih, List.length_cons]; omega
  unfold indexW
  refine ⟨by omega, by simp; omega, fun z hz => ?_⟩
  simp only [Int.toNat_natCast, List.getElem?_map, hi, Option.map_some, Option.some.injEq] at hz
  subst hz
  refine ⟨⟨e, ?_, ?_⟩, ⟨e, by rw [List.length_map, hl]; exact hu⟩, hK⟩
  · unfold placeOf
    rw [Int.toNat_natCast, hu]; simp only; rw [if_pos hin, hc, ← List.map_take, hsz, List.length_take]
    congr 2; omega
  · rw [fits_leaf ha hc]; exact ⟨rfl, by simp [AV.size]⟩

/-! ### Two owners -/
def apart (a b : Tk) : Prop := ∀ k, a = .own k → b ≠ .own k
theorem apart_full {b : Tk} : apart .full b := fun k h => by cases h
theorem apart.symm {a b : Tk} (h : apart a b) : apart b a := fun k h1 h2 => h k h2 h1
theorem canApp_apart {a b : Tk} {n m e f : Nat} (h : apart a b) (hc : canApp σ b m f) : canApp (growS σ a n e) b m f := by
  cases b with
  | none => exact hc.elim
  | lit => exact hc.elim
  | full => trivial
  | own k =>
    simp only [canApp] at hc ⊢
    cases a with
    | none => exact hc
    | lit => exact hc
    | full =>
      simp only [growS, AST.tok]
      rw [List.getElem?_append_left (List.getElem?_eq_some_iff.1 hc).1]; exact hc
    | own j =>
      have hne : j ≠ k := fun e => by subst e; exact h j rfl rfl
      simp only [growS, AST.setTok]
      rw [List.getElem?_set_ne hne]; exact hc
theorem apart_grow {a b : Tk} {m f : Nat} (h : apart a b) (hc : canApp σ b m f) : apart (growT σ a) b := by
  cases a with
  | full =>
    intro k hk
    cases hk
    intro e
    subst e
    have := (List.getElem?_eq_some_iff.1 hc).1
    omega
  | own j => exact h
  | none => exact h
  | lit => exact h
theorem canApp_push {tk : Tk} {n e : Nat} {o : AObj} : canApp (σ.push o) tk n e = canApp σ tk n e := by cases tk <;> rfl
theorem canApp_app {tk : Tk} {n e : Nat} {l : List AObj} : canApp (σ.app l) tk n e = canApp σ tk n e := by cases tk <;> rfl
theorem canApp_set {tk : Tk} {n e i : Nat} {o : AObj} : canApp (σ.set i o) tk n e = canApp σ tk n e := by cases tk <;> rfl
/-- What a slice is when its owner is forgotten. -/
def slS {α : Type} (f : α → AV) (l : List α) : AV := if l = [] then .slice .full [] else .slice .none (l.map f)
theorem slS_nil {α : Type} {f : α → AV} : slS f [] = .slice .full [] := rfl
/-- A slice of which one knows: nil, or somebody's. -/
def tkF {α : Type} (l : List α) (tk : Tk) : Prop := (l = [] ∧ tk = .full) ∨ (l ≠ [] ∧ ∃ k, tk = .own k)
theorem strips_leaf {α : Type} {f : α → AV} (h : ∀ x, (f x).strip = f x) : ∀ {l : List α}, AV.strips (l.map f) = l.map f
  | [] => by simp [AV.strips]
  | x :: r => by simp [AV.strips, h x, strips_leaf h (l := r)]
theorem strip_tkF {α : Type} {f : α → AV} (h : ∀ x, (f x).strip = f x) {l : List α} {tk : Tk} (ht : tkF l tk) : (AV.slice tk (l.map f)).strip = slS f l := by
  rcases ht with ⟨rfl, rfl⟩ | ⟨hne, k, rfl⟩
  · simp [slS, AV.strip]
  · simp only [slS, if_neg hne, AV.strip]
    rw [strips_leaf h]
theorem strip_slS {α : Type} {f : α → AV} (h : ∀ x, (f x).strip = f x) {l : List α} : (slS f l).strip = slS f l := by
  unfold slS
  split
  · simp [AV.strip]
  · rename_i hne
    cases l with
    | nil => exact absurd rfl hne
    | cons x r => simp [AV.strip, strips_leaf h, AV.strips, h x]
theorem noRefs_leaf {α : Type} {f : α → AV} (h : ∀ x, (f x).noRef = true) : ∀ {l : List α}, AV.noRefs (l.map f) = true
  | [] => rfl
  | x :: r => by simp [AV.noRefs, h x, noRefs_leaf h (l := r)]
theorem noRef_slS {α : Type} {f : α → AV} (h : ∀ x, (f x).noRef = true) {l : List α} : (slS f l).noRef = true := by
  unfold slS; split
  · rfl
  · simp only [AV.noRef]; exact noRefs_leaf h
theorem slS_tk {α : Type} {f : α → AV} {l : List α} : ∃ tk, slS f l = .slice tk (l.map f) := by
  unfold slS; split
  · rename_i h; subst h; exact ⟨.full, rfl⟩
  · exact ⟨.none, rfl⟩
theorem objs_ext {σ s : AST} {l : List AObj} (h : Ext (σ.app l) s) {k : Nat} (hk : k < l.length) : s.objs[σ.objs.length + k]? = l[k]? := by
  obtain ⟨O, T, rfl⟩ := h
  simp only [AST.app, List.append_assoc]
  rw [List.getElem?_append_right (by omega), show σ.objs.length + k - σ.objs.length = k by omega, List.getElem?_append_left hk]
theorem cell_ext {σ s : AST} {l : List AObj} (h : Ext (σ.app l) s) {k : Nat} {v : AV} (hk : l[k]? = some (.cells v)) (p : List Nat) : cellAt s (σ.objs.length + k) p = v.at p := by
  simp only [cellAt, objs_ext h (List.getElem?_eq_some_iff.1 hk).1, hk, Option.bind_some, objCell]
theorem cell_ext0 {σ s : AST} {l : List AObj} (h : Ext (σ.app l) s) {v : AV} (hk : l[0]? = some (.cells v)) (p : List Nat) : cellAt s σ.objs.length p = v.at p := cell_ext (k := 0) h hk p
attribute [go_sem] shape_agg shapes_nil shapes_cons shape_dig
end Go.Aff

/- Drawn regions, again: what is read ahead of everything that is left behind need not stay. Stores into parts. -/
namespace Go.Aff
set_option linter.unusedVariables false
set_option linter.unusedSimpArgs false

variable {P : Program} {σ σ' : AST} {ops : Array Oper} {τ : Env} {KE : Env → AST → Prop}

/-- What an operation is: 0: it reads, and that must stay; 1: it may leave something behind; 2: it reads, and stands ahead of all that is left behind later. -/
def seqF (P : Program) (ops : Array Oper) : List (Nat × Nat) → List Nat → Env → AST → (Env → AST → Prop) → Prop
  | [], ks, τ, σ, K => K τ σ
  | (i, 1) :: r, ks, τ, σ, K => match gop ops i with
    | none => False
    | some o => stepW P ops o τ σ fun v σ' => keeps ks σ σ' ∧ seqF P ops r ks (τ.putO o.dst v) σ' K
  | (i, 0) :: r, ks, τ, σ, K => match gop ops i with
    | none => False
    | some o => stepW P ops o τ σ fun v σ' => σ' = σ ∧ seqF P ops r (reads (ev τ) o.op ++ ks) (τ.putO o.dst v) σ' K
  | (i, _) :: r, ks, τ, σ, K => match gop ops i with
    | none => False
    | some o => stepW P ops o τ σ fun v σ' => σ' = σ ∧ seqF P ops r ks (τ.putO o.dst v) σ' K

def flagsF (P : Program) (ops : Array Oper) : List (Nat × Nat) → Bool
  | [] => true
  | (i, k) :: r => (match ops[i]? with
    | none => false
    | some o => effO P o == (k == 1)) && (k == 0 || k == 1 || r.all fun y => y.2 != 1 || ahead (anc ops) y.1 i) && flagsF P ops r

def pastF (P : Program) (ops : Array Oper) (ks : List Nat) (past : List (Nat × Env × AV)) (r : List (Nat × Nat)) (σ : AST) : Prop :=
  ∀ x ∈ past, (∀ o, ops[x.1]? = some o → (∀ t, lenOk (x.2.1 t)) ∧ effO P o = false ∧ (∀ k ∈ reads (ev x.2.1) o.op, k ∈ ks) ∧ stepW P ops o x.2.1 σ fun v' σ'' => v' = x.2.2 ∧ σ'' = σ) ∨ (∀ y ∈ r, y.2 = 1 → ahead (anc ops) y.1 x.1 = true)

theorem seqF_awpD : ∀ (l : List (Nat × Nat)) (ks : List Nat) (past : List (Nat × Env × AV)) (τ : Env) (σ : AST), flagsF P ops l = true → pastF P ops ks past l σ → (∀ t, lenOk (τ t)) → seqF P ops l ks τ σ KE → awpD P ops (l.map (·.1)) past τ σ KE
  | [], ks, past, τ, σ, hf, hp, hlen, h => h
  | (i, 1) :: r, ks, past, τ, σ, hf, hp, hlen, h => by
    simp only [seqF] at h
    split at h
    · exact h.elim
    · rename_i o hk
      have hk : ops[i]? = some o := hk
      simp only [flagsF, hk, Bool.and_eq_true, beq_iff_eq] at hf
      have he : effO P o = true := by simpa using hf.1.1
      simp only [List.map_cons, awpD, hk, he, if_true]
      refine stepW_mono (fun v σ' hh => ?_) h
      refine ⟨fun x hx hah o ho => ?_, fun hlv => seqF_awpD r ks past _ _ hf.2 ?_ hlv hh.2⟩
      · rcases hp x hx with h0 | h0
        · obtain ⟨h1, h2, h3, h4⟩ := h0 o ho
          exact step_same h1 h2 (fun k hk => hh.1 k (h3 k hk)) h4
        · rw [h0 (i, 1) (by simp) rfl] at hah; cases hah
      · intro x hx
        rcases hp x hx with h0 | h0
        · left
          intro o ho
          obtain ⟨h1, h2, h3, h4⟩ := h0 o ho
          exact ⟨h1, h2, h3, step_same h1 h2 (fun k hk => hh.1 k (h3 k hk)) h4⟩
        · right
          intro y hy; exact h0 y (List.mem_cons_of_mem _ hy)
  | (i, 0) :: r, ks, past, τ, σ, hf, hp, hlen, h => by
    simp only [seqF] at h
    split at h
    · exact h.elim
    · rename_i o hk
      have hk : ops[i]? = some o := hk
      simp only [flagsF, hk, Bool.and_eq_true, beq_iff_eq] at hf
      have he : effO P o = false := by simpa using hf.1.1
      simp only [List.map_cons, awpD, hk, he, Bool.false_eq_true, if_false]
      obtain ⟨v, hv, hkk⟩ := stepW_det hlen he h
      refine hkk _ fun hlv => seqF_awpD r _ _ _ _ hf.2 ?_ hlv hv.2
      intro x hx
      rcases List.mem_cons.1 hx with rfl | hx
      · left
        intro o' ho'
        dsimp only at ho' ⊢
        rw [hk] at ho'; cases ho'
        exact ⟨hlen, he, fun k hk => List.mem_append_left _ hk, hkk _ ⟨rfl, rfl⟩⟩
      · rcases hp x hx with h0 | h0
        · left
          intro o' ho'
          obtain ⟨h1, h2, h3, h4⟩ := h0 o' ho'
          exact ⟨h1, h2, fun k hk => List.mem_append_right _ (h3 k hk), h4⟩
        · right; intro y hy; exact h0 y (List.mem_cons_of_mem _ hy)
  | (i, n + 2) :: r, ks, past, τ, σ, hf, hp, hlen, h => by
    simp only [seqF] at h
    split at h
    · exact h.elim
    · rename_i o hk
      have hk : ops[i]? = some o := hk
      simp only [flagsF, hk, Bool.and_eq_true, beq_iff_eq] at hf
      have he : effO P o = false := by simpa using hf.1.1
      have hall := hf.1.2
      simp only [List.map_cons, awpD, hk, he, Bool.false_eq_true, if_false]
      obtain ⟨v, hv, hkk⟩ := stepW_det hlen he h
      refine hkk _ fun hlv => seqF_awpD r _ _ _ _ hf.2 ?_ hlv hv.2
      intro x hx
      rcases List.mem_cons.1 hx with rfl | hx
      · right
        intro y hy h1
        have hall : (r.all fun y => y.2 != 1 || ahead (anc ops) y.1 i) = true := by simpa using hall
        rw [List.all_eq_true] at hall
        have := hall y hy
        simpa [h1] using this
      · rcases hp x hx with h0 | h0
        · exact .inl h0
        · right; intro y hy; exact h0 y (List.mem_cons_of_mem _ hy)

theorem awp_drawF {id : Nat} {ops : Array Oper} {Q : Exit → Env → AST → Prop} (ord : List (Nat × Nat)) (ho : (ordOk P ops (ord.map (·.1)) && flagsF P ops ord) = true) (h : seqF P ops ord [] τ σ (Q .normal)) : awp P (.region id ops true) Q τ σ := by
  rw [Bool.and_eq_true] at ho
  exact awp_draw _ ho.1 fun hlen => seqF_awpD ord [] [] τ σ ho.2 (fun x hx => by simp at hx) hlen h

def seqF0 (P : Program) (ops : Array Oper) (o : Option Oper) (r : List (Nat × Nat)) (ks : List Nat) (τ : Env) (σ : AST) (K : Env → AST → Prop) : Prop := match o with
  | none => False
  | some o => stepW P ops o τ σ fun v σ' => σ' = σ ∧ seqF P ops r (reads (ev τ) o.op ++ ks) (τ.putO o.dst v) σ' K
def seqF1 (P : Program) (ops : Array Oper) (o : Option Oper) (r : List (Nat × Nat)) (ks : List Nat) (τ : Env) (σ : AST) (K : Env → AST → Prop) : Prop := match o with
  | none => False
  | some o => stepW P ops o τ σ fun v σ' => keeps ks σ σ' ∧ seqF P ops r ks (τ.putO o.dst v) σ' K
def seqF2 (P : Program) (ops : Array Oper) (o : Option Oper) (r : List (Nat × Nat)) (ks : List Nat) (τ : Env) (σ : AST) (K : Env → AST → Prop) : Prop := match o with
  | none => False
  | some o => stepW P ops o τ σ fun v σ' => σ' = σ ∧ seqF P ops r ks (τ.putO o.dst v) σ' K
variable {ks : List Nat}
theorem seqF_nil : seqF P ops [] ks τ σ KE = KE τ σ := nr rfl
theorem seqF_1 {i : Nat} {r : List (Nat × Nat)} : seqF P ops ((i, 1) :: r) ks τ σ KE = seqF1 P ops (gop ops i) r ks τ σ KE := by simp only [seqF, seqF1]
theorem seqF_0 {i : Nat} {r : List (Nat × Nat)} : seqF P ops ((i, 0) :: r) ks τ σ KE = seqF0 P ops (gop ops i) r ks τ σ KE := by simp only [seqF, seqF0]
theorem seqF_2 {i : Nat} {r : List (Nat × Nat)} : seqF P ops ((i, 2) :: r) ks τ σ KE = seqF2 P ops (gop ops i) r ks τ σ KE := by simp only [seqF, seqF2]
theorem seqF1_some {o : Oper} {r : List (Nat × Nat)} : seqF1 P ops (some o) r ks τ σ KE = stepW P ops o τ σ (@Lam ⟨fun v σ' => @Later ⟨keeps ks σ σ' ∧ seqF P ops r ks (τ.putO o.dst v) σ' KE⟩⟩) := nr rfl
theorem seqF0_some {o : Oper} {r : List (Nat × Nat)} : seqF0 P ops (some o) r ks τ σ KE = stepW P ops o τ σ (@Lam ⟨fun v σ' => σ' = σ ∧ @Later ⟨seqF P ops r (reads (ev τ) o.op ++ ks) (τ.putO o.dst v) σ' KE⟩⟩) := nr rfl
theorem seqF2_some {o : Oper} {r : List (Nat × Nat)} : seqF2 P ops (some o) r ks τ σ KE = stepW P ops o τ σ (@Lam ⟨fun v σ' => σ' = σ ∧ @Later ⟨seqF P ops r ks (τ.putO o.dst v) σ' KE⟩⟩) := nr rfl
attribute [go_sem ↓] seqF_nil seqF_0 seqF_1 seqF_2 seqF0_some seqF1_some seqF2_some
theorem reads_buildSlice {ρ : Operand → AV} {t : TypeId} {n : Nat} {ps : Array (Nat × Operand)} : reads ρ (.buildSlice t n ps) = [] := rfl
attribute [go_sem] reads_buildSlice

theorem res_ct {a b : Nat} {ty : TypeId} {KV : AV → Prop} : resW P [.cell a ty, .tmp b] τ σ KV = loadW P σ ty (τ a) (@LamA _ ⟨fun x => (x.known = true ∧ (τ b).known = true) ∧ @Later ⟨KV (.tuple [x, τ b])⟩⟩) := by
  simp [resW, resList, oneRes, Later, LamA]
theorem res_tc {a b : Nat} {ty : TypeId} {KV : AV → Prop} : resW P [.tmp a, .cell b ty] τ σ KV = loadW P σ ty (τ b) (@LamA _ ⟨fun x => ((τ a).known = true ∧ x.known = true) ∧ @Later ⟨KV (.tuple [τ a, x])⟩⟩) := by
  simp [resW, resList, oneRes, Later, LamA]
attribute [go_sem ↓] res_ct res_tc
theorem growS_app {tk : Tk} {n e : Nat} {l : List AObj} : growS (σ.app l) tk n e = (growS σ tk n e).app l := by cases tk <;> rfl
theorem growT_app {tk : Tk} {l : List AObj} : growT (σ.app l) tk = growT σ tk := by cases tk <;> rfl
/-! ### Stores into parts -/
def setAtO (ps : List AV) (i : Nat) (p : List Nat) (x : AV) : Option AV → AV
  | some v => .agg (ps.set i (v.setAt p x))
  | none => .agg ps
theorem setAt_agg {ps : List AV} {i : Nat} {p : List Nat} {x : AV} : (AV.agg ps).setAt (i :: p) x = setAtO ps i p x ps[i]? := by
  simp only [AV.setAt]; cases ps[i]? <;> rfl
theorem setAtO_some {ps : List AV} {i : Nat} {p : List Nat} {x v : AV} : setAtO ps i p x (some v) = .agg (ps.set i (v.setAt p x)) := rfl
def setOkO (p : List Nat) (x : AV) : Option AV → Prop
  | some v => setOk v p x
  | none => True
theorem setOk_agg {ps : List AV} {i : Nat} {p : List Nat} {x : AV} : setOk (.agg ps) (i :: p) x = setOkO p x ps[i]? := by
  simp only [setOk, eq_iff_iff]
  cases h : ps[i]? with
  | none => simp [setOkO]
  | some v => simp [setOkO]
theorem setOkO_some {p : List Nat} {x v : AV} : setOkO p x (some v) = setOk v p x := rfl
attribute [go_sem] setAt_agg setAtO_some setOk_agg setOkO_some
end Go.Aff

/- Walking: pointers compared, digests compared, arrays of anything in memory, slices of them, states known by their cells. -/
namespace Go.Aff
set_option linter.unusedVariables false
set_option linter.unusedSimpArgs false

variable {τ : Env} {P : Program} {σ σ' : AST} {K : AV → AST → Prop} {KV : AV → Prop} {KS : AST → Prop}

def isPtrT (P : Program) (t : TypeId) : Bool := match P.underlying t with | some (.pointer _) => true | _ => false
theorem isPtrT_iff {t : TypeId} (h : isPtrT P t = true) : ∃ a, P.underlying t = some (.pointer a) := by
  unfold isPtrT at h; split at h
  · exact ⟨_, by assumption⟩
  · cases h
theorem bin_ptr_eql {t : TypeId} (hu : isPtrT P t = true) {p : Option (Nat × List Nat)} : binW P .eql t (.ptr p) (.ptr none) KV = KV (.bool p.isNone) := by
  obtain ⟨a, h⟩ := isPtrT_iff hu
  cases p <;> simp [binW, eqW, eqA, h]
theorem bin_ptr_neq {t : TypeId} (hu : isPtrT P t = true) {p : Option (Nat × List Nat)} : binW P .neq t (.ptr p) (.ptr none) KV = KV (.bool !p.isNone) := by
  obtain ⟨a, h⟩ := isPtrT_iff hu
  cases p <;> simp [binW, eqW, eqA, h]

def digT (P : Program) (t : TypeId) : Bool := !P.eqGuardType P.depth t && match P.underlying t with | some (.array 32 e) => isU8 P e && P.cellsOf e == 1 | _ => false
theorem digT_iff {t : TypeId} (h : digT P t = true) : P.eqGuardType P.depth t = false ∧ ∃ e, P.underlying t = some (.array 32 e) ∧ isU8 P e = true ∧ P.cellsOf e = 1 := by
  unfold digT at h
  simp only [Bool.and_eq_true, Bool.not_eq_true'] at h
  obtain ⟨h1, h2⟩ := h
  split at h2
  · rename_i e he
    simp only [Bool.and_eq_true, beq_iff_eq] at h2
    exact ⟨h1, e, he, h2.1, h2.2⟩
  · cases h2
theorem bin_dig_eql {t : TypeId} (hu : digT P t = true) {a b : Dig} : binW P .eql t (.dig a) (.dig b) KV = KV (.bool (a.l == b.l)) := by
  obtain ⟨h1, e, h2, h3, h4⟩ := digT_iff hu
  simp [binW, eqW, eqA, h1, h2, h3, h4]
theorem bin_dig_neq {t : TypeId} (hu : digT P t = true) {a b : Dig} : binW P .neq t (.dig a) (.dig b) KV = KV (.bool !(a.l == b.l)) := by
  obtain ⟨h1, e, h2, h3, h4⟩ := digT_iff hu
  simp [binW, eqW, eqA, h1, h2, h3, h4]
theorem nilCheck_some {q : Nat × List Nat} : nilCheckW (.ptr (some q)) KV = KV (.ptr (some q)) := nr rfl
theorem cellAt_known {j : Nat} {v : AV} (h : σ.objs[j]? = some (.cells v)) (p : List Nat) : cellAt σ j p = v.at p := by simp only [cellAt, h, Option.bind_some, objCell]
theorem cellAt_known_app {j : Nat} {v : AV} (h : σ.objs[j]? = some (.cells v)) (p : List Nat) (d : List AObj) : cellAt (σ.app d) j p = v.at p := by
  have hj : j < σ.objs.length := (List.getElem?_eq_some_iff.1 h).1
  simp only [cellAt, AST.app, List.getElem?_append_left hj, h, Option.bind_some, objCell]
theorem objs_known_app {j : Nat} {o : AObj} (h : σ.objs[j]? = some o) (d : List AObj) : (σ.app d).objs[j]? = some o := by
  have hj : j < σ.objs.length := (List.getElem?_eq_some_iff.1 h).1
  simp only [AST.app, List.getElem?_append_left hj, h]
theorem objs_known_ext {j : Nat} {o : AObj} (h : σ.objs[j]? = some o) (hx : Ext σ σ') : σ'.objs[j]? = some o := by
  obtain ⟨O, T, rfl⟩ := hx
  have hj : j < σ.objs.length := (List.getElem?_eq_some_iff.1 h).1
  simp only [List.getElem?_append_left hj, h]
theorem cellAt_known_ext {j : Nat} {v : AV} (h : σ.objs[j]? = some (.cells v)) (hx : Ext σ σ') (p : List Nat) : cellAt σ' j p = v.at p := cellAt_known (objs_known_ext h hx) p
theorem keeps_none : keeps [] σ σ' = True := by simp only [eq_iff_iff, iff_true]; exact keeps_nil
theorem reads_nilCheck {ρ : Operand → AV} {x : Operand} : reads ρ (.nilCheck x) = [] := rfl
theorem keeps_app {ks : List Nat} {a b : List AObj} (h : ∀ k ∈ ks, k < σ.objs.length) : keeps ks (σ.app a) (σ.app b) := fun k hk => by
  simp only [AST.app]; rw [List.getElem?_append_left (h k hk), List.getElem?_append_left (h k hk)]
theorem keeps_push {ks : List Nat} {o : AObj} (h : ∀ k ∈ ks, k < σ.objs.length) : keeps ks σ (σ.push o) := fun k hk => by
  simp only [AST.push]; rw [List.getElem?_append_left (h k hk)]
attribute [go_sem] reads_nilCheck keeps_none nilCheck_some isPtrT bin_ptr_eql bin_ptr_neq Option.isNone_some Option.isNone_none

theorem sizes_all {c : Nat} : ∀ {l : List AV}, (∀ v ∈ l, v.size = c) → AV.sizes l = l.length * c
  | [], _ => by simp [AV.sizes]
  | v :: r, h => by
    have h1 := h v (by simp)
    have h2 := sizes_all (l := r) fun x hx => h x (by simp [hx])
    simp only [AV.sizes, h1, h2, List.length_cons, Nat.succ_mul]; omega

/-- A place of an array in memory. -/
theorem indexAddr_arr {t e n c : Nat} {j : Nat} {p : List Nat} {xs : List AV} {i : Nat} {x : AV} {q : IntKind} (hu : P.underlying t = some (.array n e)) (hc : P.cellsOf e = c) (hl : xs.length = n) (hs : ∀ v ∈ xs, v.size = c)
    (ho : cellAt σ j p = some (.agg xs)) (hi : xs[i]? = some x) (hf : fits P e x) (hK : KV (.ptr (some (j, p ++ [i])))) : indexAddrW P σ t (.ptr (some (j, p))) (.int q i) KV := by
  have hin : i < n := by rw [← hl]; exact (List.getElem?_eq_some_iff.1 hi).1
  have hpl : placeOf P t i = some (i * c, e) := by
    unfold placeOf
    rw [hu]; simp only; rw [if_pos hin, hc]
  have hsz : AV.sizes (xs.take i) = i * c := by
    rw [sizes_all (c := c) fun v hv => hs v (List.mem_of_mem_take hv), List.length_take, Nat.min_eq_left (by omega)]
  simp only [cellAt, Option.bind_eq_some_iff] at ho
  obtain ⟨o, h1, h2⟩ := ho
  cases o with
  | cells v =>
    simp only [objCell] at h2
    simp only [indexAddrW, h1, h2]
    refine ⟨by omega, by omega, fun z hz => ?_⟩
    simp only [Int.toNat_natCast] at hz ⊢
    rw [hi] at hz; cases hz
    refine ⟨⟨e, ?_, hf⟩, ⟨e, by rw [hl]; exact hu⟩, hK⟩
    rw [hpl, hsz]
  | _ => simp [objCell] at h2

/-- A place of a digest in memory. -/
theorem indexAddr_dig {t e : TypeId} {j : Nat} {p : List Nat} {d : Dig} {i : Nat} {q : IntKind} (hu : P.underlying t = some (.array 32 e)) (hf : fits P e (.int .u8 0)) (ho : cellAt σ j p = some (.dig d)) (hi : i < 32) (hK : KV (.ptr (some (j, p ++ [i])))) :
    indexAddrW P σ t (.ptr (some (j, p))) (.int q i) KV := by
  simp only [cellAt, Option.bind_eq_some_iff] at ho
  obtain ⟨o, h1, h2⟩ := ho
  cases o with
  | cells v =>
    simp only [objCell] at h2
    simp only [indexAddrW, h1, h2]
    refine ⟨by omega, by rw [d.h]; omega, fun z hz => ?_⟩
    exact ⟨⟨e, hu, hf⟩, by rw [Int.toNat_natCast]; exact hK⟩
  | _ => simp [objCell] at h2
theorem at_dig1 {d : Dig} {i : Nat} : (AV.dig d).at [i] = (d.l[i]?).map fun b => .int .u8 b.toNat := rfl
/-- A place of a slice of an array in memory. -/
theorem indexAddr_part {t e m c : Nat} {j : Nat} {p : List Nat} {xs : List AV} {i : Nat} {x : AV} {q : IntKind} (hu : P.underlying t = some (.slice e)) (hc : P.cellsOf e = c) (hm : m ≤ xs.length) (hs : ∀ v ∈ xs, v.size = c) (him : i < m)
    (ho : cellAt σ j p = some (.agg xs)) (hi : xs[i]? = some x) (hf : fits P e x) (hK : KV (.ptr (some (j, p ++ [i])))) : indexAddrW P σ t (.arr j p m) (.int q i) KV := by
  have hsz : AV.sizes (xs.take i) = i * c := by
    rw [sizes_all (c := c) fun v hv => hs v (List.mem_of_mem_take hv), List.length_take, Nat.min_eq_left (by omega)]
  simp only [cellAt, Option.bind_eq_some_iff] at ho
  obtain ⟨o, h1, h2⟩ := ho
  cases o with
  | cells v =>
    simp only [objCell] at h2
    simp only [indexAddrW, h1, h2]
    refine ⟨e, hu, hm, by rw [Int.toNat_natCast, hsz, hc], by omega, by rw [List.length_take]; omega, fun z hz => ?_⟩
    simp only [Int.toNat_natCast] at hz ⊢
    rw [List.getElem?_take, if_pos him, hi] at hz; cases hz
    exact ⟨hf, hK⟩
  | _ => simp [objCell] at h2
/-- An array in memory, sliced. -/
theorem slice_arr {t e n h : Nat} {j : Nat} {p : List Nat} {q : IntKind} (hu : P.underlying t = some (.array n e)) (hn : n ≤ maxL) (he : ∃ d, P.underlying e = some d) (hh : h ≤ n) (hK : KV (.arr j p h)) :
    sliceW P t (.ptr (some (j, p))) none (some (.int q h)) none KV := by
  refine ⟨e, n, .inr hu, hn, he, rfl, rfl, by omega, ?_⟩
  simp only [Int.toNat_natCast]; exact ⟨hh, hK⟩

theorem mm_min {k : IntKind} {a b : Int} : mmW false [.int k a, .int k b] KV = KV (.int k (min a b)) := by simp [mmW]
attribute [go_sem] mm_min
theorem res_ttc {a b c : Nat} {ty : TypeId} : resW P [.tmp a, .tmp b, .cell c ty] τ σ KV = loadW P σ ty (τ c) (@LamA _ ⟨fun x => ((τ a).known = true ∧ (τ b).known = true ∧ x.known = true) ∧ @Later ⟨KV (.tuple [τ a, τ b, x])⟩⟩) := by
  simp [resW, resList, oneRes, Later, LamA]
theorem res_ttt {a b c : Nat} : resW P [.tmp a, .tmp b, .tmp c] τ σ KV = (((τ a).known = true ∧ (τ b).known = true ∧ (τ c).known = true) ∧ @Later ⟨KV (.tuple [τ a, τ b, τ c])⟩) := by
  simp [resW, resList, oneRes, Later, LamA]
attribute [go_sem ↓] res_ttc
end Go.Aff

/- Layer 21, walked: roots, blocks. -/
namespace Go.Aff.L21
open Go.Proofs Go.Aff Go.Aff.L01 Classical
set_option linter.unusedVariables false
set_option linter.unusedSimpArgs false
attribute [local go_sem] push_app app_app length_app cellAt_app cellAt_app0 set_app set_app0 objs_app objs_app0 List.cons_append List.nil_append List.length_cons List.length_nil List.getElem?_cons_zero List.getElem?_cons_succ List.set_cons_zero List.set_cons_succ
attribute [-go_sem] cellAt_new
theorem zero3 : zeroA Try.prog 12 3 = .int .i64 0 := by kernel_rfl
theorem zeroOf3 : ZeroOf Try.prog 3 (.int .i64 0) := ⟨_, _, rfl, rfl, rfl, rfl, rfl⟩
theorem fits4 {v : AV} : fits Try.prog 4 v = (v.isAgg = false ∧ v.size = 1) := fits_leaf (by kernel_rfl) (by kernel_rfl)
theorem zero4 : zeroA Try.prog 12 4 = .bool false := by kernel_rfl
theorem zeroOf4 : ZeroOf Try.prog 4 (.bool false) := ⟨_, _, rfl, rfl, rfl, rfl, rfl⟩
theorem fits5 {v : AV} : fits Try.prog 5 v = (v.isAgg = false ∧ v.size = 1) := fits_leaf (by kernel_rfl) (by kernel_rfl)
theorem zero5 : zeroA Try.prog 12 5 = .int .u8 0 := by kernel_rfl
theorem zeroOf5 : ZeroOf Try.prog 5 (.int .u8 0) := ⟨_, _, rfl, rfl, rfl, rfl, rfl⟩
theorem zero9 : zeroA Try.prog 12 9 = .str [] := by kernel_rfl
theorem zeroOf9 : ZeroOf Try.prog 9 (.str []) := ⟨_, _, rfl, rfl, rfl, rfl, rfl⟩
theorem fits22 {v : AV} : fits Try.prog 22 v = (v.isAgg = false ∧ v.size = 1) := fits_leaf (by kernel_rfl) (by kernel_rfl)
theorem zero22 : zeroA Try.prog 12 22 = .slice .full [] := by kernel_rfl
theorem zeroOf22 : ZeroOf Try.prog 22 (.slice .full []) := ⟨_, _, rfl, rfl, rfl, rfl, rfl⟩
theorem fits23 {v : AV} : fits Try.prog 23 v = (v.isAgg = false ∧ v.size = 1) := fits_leaf (by kernel_rfl) (by kernel_rfl)
theorem zero23 : zeroA Try.prog 12 23 = .int .i64 0 := by kernel_rfl
theorem zeroOf23 : ZeroOf Try.prog 23 (.int .i64 0) := ⟨_, _, rfl, rfl, rfl, rfl, rfl⟩
theorem fits29 {v : AV} : fits Try.prog 29 v = (v.isAgg = false ∧ v.size = 1) := fits_leaf (by kernel_rfl) (by kernel_rfl)
theorem zero29 : zeroA Try.prog 12 29 = .slice .full [] := by kernel_rfl
theorem zeroOf29 : ZeroOf Try.prog 29 (.slice .full []) := ⟨_, _, rfl, rfl, rfl, rfl, rfl⟩
theorem fits43 {v : AV} : fits Try.prog 43 v = (v.isAgg = false ∧ v.size = 1) := fits_leaf (by kernel_rfl) (by kernel_rfl)
theorem zero43 : zeroA Try.prog 12 43 = .slice .full [] := by kernel_rfl
theorem zeroOf43 : ZeroOf Try.prog 43 (.slice .full []) := ⟨_, _, rfl, rfl, rfl, rfl, rfl⟩
theorem fits44 {v : AV} : fits Try.prog 44 v = (v.isAgg = false ∧ v.size = 1) := fits_leaf (by kernel_rfl) (by kernel_rfl)
theorem zero44 : zeroA Try.prog 12 44 = .slice .full [] := by kernel_rfl
theorem zeroOf44 : ZeroOf Try.prog 44 (.slice .full []) := ⟨_, _, rfl, rfl, rfl, rfl, rfl⟩
theorem fits46 {v : AV} : fits Try.prog 46 v = (v.isAgg = true ∧ v.size = 6) := fits_agg (by kernel_rfl) (by kernel_rfl)
theorem p46_0 {ps : List AV} {x : AV} : partIs Try.prog 46 ps 0 x = (0 = AV.sizes (ps.take 0) ∧ fits Try.prog 3 x) := partIs_of (by kernel_rfl)
theorem p46_1 {ps : List AV} {x : AV} : partIs Try.prog 46 ps 1 x = (1 = AV.sizes (ps.take 1) ∧ fits Try.prog 3 x) := partIs_of (by kernel_rfl)
theorem p46_2 {ps : List AV} {x : AV} : partIs Try.prog 46 ps 2 x = (2 = AV.sizes (ps.take 2) ∧ fits Try.prog 3 x) := partIs_of (by kernel_rfl)
theorem p46_3 {ps : List AV} {x : AV} : partIs Try.prog 46 ps 3 x = (3 = AV.sizes (ps.take 3) ∧ fits Try.prog 44 x) := partIs_of (by kernel_rfl)
theorem p46_4 {ps : List AV} {x : AV} : partIs Try.prog 46 ps 4 x = (4 = AV.sizes (ps.take 4) ∧ fits Try.prog 29 x) := partIs_of (by kernel_rfl)
theorem p46_5 {ps : List AV} {x : AV} : partIs Try.prog 46 ps 5 x = (5 = AV.sizes (ps.take 5) ∧ fits Try.prog 44 x) := partIs_of (by kernel_rfl)
theorem zero46 : zeroA Try.prog 12 46 = .agg [.int .i64 0, .int .i64 0, .int .i64 0, .slice .full [], .slice .full [], .slice .full []] := by kernel_rfl
theorem zeroOf46 : ZeroOf Try.prog 46 (.agg [.int .i64 0, .int .i64 0, .int .i64 0, .slice .full [], .slice .full [], .slice .full []]) := ⟨_, _, rfl, rfl, rfl, rfl, rfl⟩
theorem built46 : Built Try.prog 46 := by unfold Built; rw [Try.underlying46]; decide +kernel
theorem fits64 {v : AV} : fits Try.prog 64 v = (v.isAgg = true ∧ v.size = 2) := fits_agg (by kernel_rfl) (by kernel_rfl)
theorem p64_0 {ps : List AV} {x : AV} : partIs Try.prog 64 ps 0 x = (0 = AV.sizes (ps.take 0) ∧ fits Try.prog 3 x) := partIs_of (by kernel_rfl)
theorem p64_1 {ps : List AV} {x : AV} : partIs Try.prog 64 ps 1 x = (1 = AV.sizes (ps.take 1) ∧ fits Try.prog 23 x) := partIs_of (by kernel_rfl)
theorem zero64 : zeroA Try.prog 12 64 = .agg [.int .i64 0, .int .i64 0] := by kernel_rfl
theorem zeroOf64 : ZeroOf Try.prog 64 (.agg [.int .i64 0, .int .i64 0]) := ⟨_, _, rfl, rfl, rfl, rfl, rfl⟩
theorem built64 : Built Try.prog 64 := by unfold Built; rw [Try.underlying64]; decide +kernel
attribute [local go_sem] Try.underlying3 fits4 Try.underlying4 fits5 Try.underlying5 Try.underlying9 fits22 Try.underlying22 fits23 Try.underlying23 fits29 Try.underlying29 fits43 Try.underlying43 fits44 Try.underlying44 fits46 p46_0 p46_1 p46_2 p46_3 p46_4 p46_5 Try.underlying46 fits64 p64_0 p64_1 Try.underlying64

attribute [local go_sem] fits3 fits9
attribute [local go_sem ↓] res_ttt
theorem E29 : ElemT Try.prog 29 9 1 16 := ⟨rfl, by kernel_rfl, by kernel_rfl, ⟨.str [], ⟨_, _, rfl, rfl, rfl, rfl, rfl⟩⟩, by decide⟩
theorem E44 : ElemT Try.prog 44 3 1 8 := ⟨rfl, by kernel_rfl, by kernel_rfl, ⟨.int .i64 0, ⟨_, _, rfl, rfl, rfl, rfl, rfl⟩⟩, by decide⟩
theorem size_strs : ∀ {l : List (List UInt8)}, ∀ v ∈ l.map AV.str, v.size = 1 := by
  intro l v hv; obtain ⟨x, _, rfl⟩ := List.mem_map.1 hv; simp [AV.size]
theorem size_ints : ∀ {l : List Int}, ∀ v ∈ l.map (AV.int .i64), v.size = 1 := by
  intro l v hv; obtain ⟨x, _, rfl⟩ := List.mem_map.1 hv; simp [AV.size]
theorem strip_int (x : Int) : (AV.int .i64 x).strip = AV.int .i64 x := by simp [AV.strip]
theorem strip_str (x : List UInt8) : (AV.str x).strip = AV.str x := by simp [AV.strip]

theorem root_c {n : Int} (h0 : -9223372036854775808 ≤ n) (h1 : n ≤ 9223372036854775807) {σ : AST} {K : AV → AST → Prop} (hK : K (.str (numS n)) σ) : TCalls Try.prog 17 [.int .i64 n] σ K := by
  refine tcalls_walk Try.f17 _ [.tmp 2] Try.func17 rfl rfl rfl mixed (Nat.le_of_ble_eq_true rfl) rfl fun hlen => ?_
  simp -dsimp only [↓reduceIte, go_sem]
  refine number_c h0 h1 ?_
  simp -dsimp only [↓reduceIte, go_sem]
  exact hK

/-- What a value of a root is. -/
def rootR (s : List UInt8) : Int × Bool × Int :=
  if s = [] then (0, false, 0) else if (numR s 0).2.2 ≠ 0 then (0, false, (numR s 0).2.2) else
  if (numR s 0).2.1 < s.length ∨ (numR s 0).1 < 0 ∨ 1099511627776 < (numR s 0).1 then (0, false, 6) else ((numR s 0).1, true, 0)
def rootV (x : Int × Bool × Int) : AV := .tuple [.int .i64 x.1, .bool x.2.1, .int .i64 x.2.2]
theorem readRoot_c {s : List UInt8} {σ : AST} {K : AV → AST → Prop} (hK : K (rootV (rootR s)) σ) : TCalls Try.prog 15 [.str s] σ K := by
  refine tcalls_walk Try.f15 _ [.tmp 2, .tmp 3, .tmp 4] Try.func15 rfl rfl rfl mixed (Nat.le_of_ble_eq_true rfl) rfl fun hlen => ?_
  simp -dsimp only [↓reduceIte, go_sem]
  refine boolW_split (fun hs => ?_) (fun hs => ?_)
  · have hs : s = [] := by simpa using hs
    rw [rootR, if_pos hs] at hK
    simp -dsimp only [↓reduceIte, go_sem]
    exact hK
  · have hs : s ≠ [] := by simpa using hs
    rw [rootR, if_neg hs] at hK
    simp -dsimp only [↓reduceIte, go_sem]
    refine readNumber_c (by omega) (by omega) ?_
    unfold tup3
    simp -dsimp only [↓reduceIte, go_sem]
    refine boolW_split (fun h1 => ?_) (fun h1 => ?_)
    · have h1 : (numR s 0).2.2 ≠ 0 := by simpa using h1
      rw [if_pos h1] at hK
      simp -dsimp only [↓reduceIte, go_sem]
      exact hK
    · have h1 : (numR s 0).2.2 = 0 := by simpa using h1
      rw [if_neg (not_not_intro h1)] at hK
      simp -dsimp only [↓reduceIte, go_sem]
      refine arr_intro fun _ => ?_
      simp -dsimp only [↓reduceIte, go_sem]
      refine guardV_split (fun h2 => ?_) (fun h2 => ?_) <;> (try rw [h2])
      · have h2 : ¬ (numR s 0).2.1 < s.length := by simpa using h2
        simp -dsimp only [↓reduceIte, go_sem]
        refine guardV_split (fun h3 => ?_) (fun h3 => ?_) <;> (try rw [h3])
        · have h3 : ¬ (numR s 0).1 < 0 := by simpa using h3
          simp -dsimp only [↓reduceIte, go_sem]
          refine boolW_split (fun h4 => ?_) (fun h4 => ?_)
          · have h4 : 1099511627776 < (numR s 0).1 := by simpa using h4
            rw [if_pos (.inr (.inr h4))] at hK
            simp -dsimp only [↓reduceIte, go_sem]
            exact hK
          · have h4 : ¬ 1099511627776 < (numR s 0).1 := by simpa using h4
            rw [if_neg (fun h => by
              rcases h with h | h | h
              · exact h2 h
              · exact h3 h
              · exact h4 h)] at hK
            simp -dsimp only [↓reduceIte, go_sem]
            exact hK
        · have h3 : (numR s 0).1 < 0 := by simpa using h3
          rw [if_pos (.inr (.inl h3))] at hK
          simp -dsimp only [↓reduceIte, go_sem]
          exact hK
      · have h2 : (numR s 0).2.1 < s.length := by simpa using h2
        rw [if_pos (.inl h2)] at hK
        simp -dsimp only [↓reduceIte, go_sem]
        exact hK

theorem many_c {n : Nat} (hn : n ≤ 1000000) {σ : AST} {K : AV → AST → Prop} (hK : K (.int .i64 (((n + 31) / 32 : Nat) : Int)) σ) : TCalls Try.prog 29 [.int .i64 n] σ K := by
  refine tcalls_walk Try.f29 _ [.tmp 2] Try.func29 rfl rfl rfl mixed (Nat.le_of_ble_eq_true rfl) rfl fun hlen => ?_
  simp -dsimp only [↓reduceIte, go_sem]
  rw [wrap_i64 (n := (n : Int) + 32) (by omega) (by omega), wrap_i64 (n := (n : Int) + 32 - 1) (by omega) (by omega), show (n : Int) + 32 - 1 = ((n + 31 : Nat) : Int) by omega]
  rw [show ((n + 31 : Nat) : Int).tdiv 32 = (((n + 31) / 32 : Nat) : Int) from tdiv_lit (n + 31) 31, wrap_i64 (by omega) (by omega)]
  exact hK

theorem cut_c {d : List UInt8} (hd : d.length ≤ 100000) {σ : AST} {K : AV → AST → Prop} (hK : K (slS AV.str (cut d)) σ) : TCalls Try.prog 12 [.str d] σ K := by
  refine TCalls.drop ?_
  refine tcalls_walk Try.f12 _ [.tmp 2] Try.func12 rfl rfl rfl mixed (Nat.le_of_ble_eq_true rfl) rfl fun hlen => ?_
  simp -dsimp only [↓reduceIte, go_sem]
  refine awp_rounds (fun (i : Nat) τ s => ∃ tk r P, i = d.length - r.length ∧ r.length ≤ d.length ∧ cut d = P ++ cut r ∧ P.length ≤ d.length - r.length ∧ Ext σ s ∧ tkNew σ tk ∧ canApp s tk P.length 1 ∧ tkF P tk ∧ τ 0 = .str r ∧ τ 3 = .slice tk (P.map AV.str)) (fun i => d.length - i) 0 ?_ ?_
  · refine ⟨.full, d, [], by omega, by omega, rfl, by simp, Ext.refl _, .inl rfl, trivial, .inl ⟨rfl, rfl⟩, ?_, ?_⟩ <;> (try simp only [go_sem]) <;> rfl
  · rintro i τ s ⟨tk, r, P, hir, hr, hcut, hP, hx, htk, hcan, hF, t0, t3⟩
    simp -dsimp only [↓reduceIte, go_sem, t0, t3]
    refine arr_intro fun _ => ?_
    simp -dsimp only [↓reduceIte, go_sem, t0, t3]
    refine boolW_split (fun hb => ?_) (fun hb => ?_)
    · have hb : r ≠ [] := by rintro rfl; simp at hb
      have hp := List.length_pos_iff.2 hb
      simp -dsimp only [↓reduceIte, go_sem, t0, t3]
      refine arr_intro fun _ => ?_
      simp -dsimp only [↓reduceIte, go_sem, t0, t3]
      rw [show min (32 : Int) (r.length : Int) = ((min 32 r.length : Nat) : Int) by omega]
      refine ⟨by omega, later_intro ?_⟩
      simp -dsimp only [↓reduceIte, go_sem, t0, t3]
      refine ⟨by omega, later_intro ?_⟩
      have htk32 : r.take (min 32 r.length) = r.take 32 := by
        by_cases h : 32 ≤ r.length
        · rw [Nat.min_eq_left h]
        · rw [Nat.min_eq_right (by omega), List.take_length, List.take_of_length_le (by omega)]
      have hdr32 : r.drop (min 32 r.length) = r.drop 32 := by
        by_cases h : 32 ≤ r.length
        · rw [Nat.min_eq_left h]
        · rw [Nat.min_eq_right (by omega), List.drop_length, List.drop_of_length_le (by omega)]
      simp -dsimp only [↓reduceIte, go_sem, t0, t3]
      rw [htk32]
      refine build_slice E29 rfl (by decide) ?_ ?_
      · intro v hv
        simp at hv; subst hv
        exact ⟨by simp only [go_sem], rfl⟩
      simp -dsimp only [↓reduceIte, go_sem, t0, t3]
      refine append_slice E29 (by rfl) (by rw [List.length_map]; exact hcan) (by intro v hv; simp at hv; subst hv; simp [AV.size]) size_strs (by rw [List.length_map]; simp; omega) (by rw [List.length_map]; simp [maxL]; omega) ?_
      rw [List.length_map]
      refine later_intro ?_
      simp -dsimp only [↓reduceIte, go_sem, t0, t3]
      refine ⟨by omega, later_intro ?_⟩
      simp -dsimp only [↓reduceIte, go_sem, t0, t3]
      refine ⟨by omega, ?_⟩
      refine ⟨Nat.le_refl _, later_intro ?_⟩
      simp -dsimp only [↓reduceIte, go_sem, t0, t3]
      rw [List.take_length, hdr32]
      have hcs := cut_step hb
      have hdl : (r.drop 32).length = r.length - 32 := List.length_drop
      refine later_intro ⟨_, ?_, growT s tk, r.drop 32, P ++ [r.take 32], rfl, by omega, by rw [hcut, hcs]; simp, by rw [List.length_append]; simp; omega, hx.grow htk, htk.grow hx, by rw [List.length_append]; exact canApp_grow hcan, .inr ⟨by simp, ?_⟩, ?_, ?_⟩ <;> (try simp only [go_sem, t0, t3]) <;> (try rfl)
      · omega
      · rcases htk with h | ⟨k, h, _⟩
        · subst h; exact ⟨_, rfl⟩
        · subst h; exact ⟨_, rfl⟩
      · rw [List.map_append]; rfl
    · have hb : r = [] := by
        cases r with
        | nil => rfl
        | cons b r => simp at hb
      subst hb
      rw [cut_nil, List.append_nil] at hcut
      simp -dsimp only [↓reduceIte, go_sem, t0, t3]
      refine ⟨hx, noRefs_leaf (fun _ => rfl), ?_⟩
      rw [strip_tkF strip_str hF, ← hcut]
      exact hK
end Go.Aff.L21

