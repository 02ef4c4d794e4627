import Derived.Test.YtahhjdknfhkgcaaG7
import Derived.RangeFuncLeaves

set_option linter.unusedSimpArgs false
set_option linter.unusedVariables false

namespace Go.Aff

variable {P : Program} {σ σ' : AST} {K : AV → AST → Prop} {KV : AV → Prop} {KS : AST → Prop}

def objCell (o : AObj) (p : List Nat) : Option AV := match o with
  | .cells v => v.at p
  | _ => none
def cellAt (σ : AST) (j : Nat) (p : List Nat) : Option AV := (σ.objs[j]?).bind fun o => objCell o p

theorem cellAt_new {o : AObj} {p : List Nat} : cellAt (σ.push o) σ.objs.length p = objCell o p := by simp [cellAt, AST.push]
theorem cellAt_tok {n es j : Nat} {p : List Nat} : cellAt (σ.tok n es) j p = cellAt σ j p := nr rfl
theorem cellAt_setTok {t n es j : Nat} {p : List Nat} : cellAt (σ.setTok t n es) j p = cellAt σ j p := nr rfl
theorem cellAt_growS {tk : Tk} {n es j : Nat} {p : List Nat} : cellAt (growS σ tk n es) j p = cellAt σ j p := by cases tk <;> rfl
theorem objCell_cells {v : AV} {p : List Nat} : objCell (.cells v) p = v.at p := nr rfl
theorem at_agg {ps : List AV} {i : Nat} {p : List Nat} : (AV.agg ps).at (i :: p) = (ps[i]?).bind fun v => v.at p := nr rfl
theorem length_push {o : AObj} : (σ.push o).objs.length = σ.objs.length + 1 := by simp [AST.push]
theorem length_tok {n es : Nat} : (σ.tok n es).objs.length = σ.objs.length := nr rfl
theorem length_setTok {t n es : Nat} : (σ.setTok t n es).objs.length = σ.objs.length := nr rfl
theorem length_growS {tk : Tk} {n es : Nat} : (growS σ tk n es).objs.length = σ.objs.length := by cases tk <;> rfl
theorem length_set {i : Nat} {o : AObj} : (σ.set i o).objs.length = σ.objs.length := by simp [AST.set]

def loadC (P : Program) (t : TypeId) (x : Option AV) (K : AV → Prop) : Prop := match x with
  | some x => fits P t x ∧ K x
  | none => False
theorem load_ptr {t : TypeId} {j : Nat} {p : List Nat} : loadW P σ t (.ptr (some (j, p))) KV = loadC P t (cellAt σ j p) KV := by
  simp only [loadW, cellAt]
  cases h : σ.objs[j]? with
  | none => simp [loadC]
  | some o =>
    cases o with
    | cells v => simp only [Option.bind_some, objCell, loadC]; cases v.at p <;> rfl
    | _ => simp [objCell, loadC]
theorem loadC_some {t : TypeId} {x : AV} : loadC P t (some x) KV = (fits P t x ∧ @Later ⟨KV x⟩) := nr rfl

def fieldAddrC (P : Program) (t : TypeId) (x : Option AV) (j : Nat) (p : List Nat) (i : Nat) (K : AV → Prop) : Prop := match x with
  | some (.agg ps) => match ps[i]? with
    | some x => partIs P t ps i x ∧ 0 < x.size ∧ K (.ptr (some (j, p ++ [i])))
    | none => False
  | _ => False
def fieldAddrP (P : Program) (t : TypeId) (ps : List AV) (x : Option AV) (j : Nat) (p : List Nat) (i : Nat) (K : AV → Prop) : Prop := match x with
  | some x => partIs P t ps i x ∧ 0 < x.size ∧ K (.ptr (some (j, p ++ [i])))
  | none => False
theorem fieldAddr_ptr {t : TypeId} {j i : Nat} {p : List Nat} : fieldAddrW P σ t (.ptr (some (j, p))) i KV = fieldAddrC P t (cellAt σ j p) j p i KV := by
  simp only [fieldAddrW, cellAt]
  cases h : σ.objs[j]? with
  | none => simp [fieldAddrC]
  | some o =>
    cases o with
    | cells v => simp only [Option.bind_some, objCell, fieldAddrC]; cases v.at p <;> rfl
    | _ => simp [objCell, fieldAddrC]
theorem fieldAddrC_agg {t : TypeId} {ps : List AV} {j i : Nat} {p : List Nat} : fieldAddrC P t (some (.agg ps)) j p i KV = fieldAddrP P t ps ps[i]? j p i KV := nr rfl
theorem fieldAddrP_some {t : TypeId} {ps : List AV} {x : AV} {j i : Nat} {p : List Nat} : fieldAddrP P t ps (some x) j p i KV = ((partIs P t ps i x ∧ 0 < x.size) ∧ @Later ⟨KV (.ptr (some (j, p ++ [i])))⟩) := by
  simp [fieldAddrP, Later, and_assoc]
def fieldAddrE (P : Program) (t : TypeId) (ps : List AV) (x : Option AV) (i : Nat) (K : AV → Prop) : Prop := match x with
  | some x => partIs P t ps i x ∧ 0 < x.size ∧ K (.eptr x)
  | none => False
theorem fieldAddr_eptr {t : TypeId} {ps : List AV} {i : Nat} : fieldAddrW P σ t (.eptr (.agg ps)) i KV = fieldAddrE P t ps ps[i]? i KV := nr rfl
theorem fieldAddrE_some {t : TypeId} {ps : List AV} {x : AV} {i : Nat} : fieldAddrE P t ps (some x) i KV = ((partIs P t ps i x ∧ 0 < x.size) ∧ @Later ⟨KV (.eptr x)⟩) := by
  simp [fieldAddrE, Later, and_assoc]
def fieldE (P : Program) (t : TypeId) (ps : List AV) (x : Option AV) (i : Nat) (K : AV → Prop) : Prop := match x with
  | some x => partIs P t ps i x ∧ K x
  | none => False
theorem field_agg {t : TypeId} {ps : List AV} {i : Nat} : fieldW P t (.agg ps) i KV = fieldE P t ps ps[i]? i KV := nr rfl
theorem fieldE_some {t : TypeId} {ps : List AV} {x : AV} {i : Nat} : fieldE P t ps (some x) i KV = (partIs P t ps i x ∧ @Later ⟨KV x⟩) := nr rfl

theorem partIs_of {t : TypeId} {i o : Nat} {T : TypeId} (h : placeOf P t i = some (o, T)) {ps : List AV} {x : AV} : partIs P t ps i x = (o = AV.sizes (ps.take i) ∧ fits P T x) := by
  simp only [partIs, h, Option.some.injEq, Prod.mk.injEq, eq_iff_iff]
  constructor
  · rintro ⟨_, ⟨h1, rfl⟩, h2⟩; exact ⟨h1, h2⟩
  · rintro ⟨h1, h2⟩; exact ⟨T, ⟨h1, rfl⟩, h2⟩

attribute [go_sem] cellAt_new cellAt_tok cellAt_setTok cellAt_growS objCell_cells at_nil at_agg length_push length_tok length_setTok length_growS length_set load_ptr loadC_some fieldAddr_ptr fieldAddrC_agg fieldAddrP_some
attribute [go_sem] fieldAddr_eptr fieldAddrE_some field_agg fieldE_some Option.bind_some List.take_zero List.take_succ_cons Nat.reduceEqDiff Nat.zero_add Nat.zero_lt_one and_self List.map_cons List.map_nil List.append_nil
end Go.Aff

namespace Go.Aff.L01
open Go.Proofs Go.Aff
set_option maxRecDepth 20000
def tk' {α : Type} (l : List α) : Tk := if l = [] then .full else .none

end Go.Aff.L01

namespace Go.Aff

variable {g g' : G} {w w' : World} {σ σ' : AST} {P : Program}

/-! ### Code with marks -/
def LiftX (n : Nat) (g0 : G) (w0 : World) (Q : Exit → List Deferred → Env → AST → Prop) : Exit → Act → World → Prop := fun e a w =>
  ∃ g τ σ, Ev g0 w0 g w ∧ Inv g σ w ∧ relE g w τ a.tmps ∧ a.tmps.size = n ∧ Q e a.defers τ σ
theorem LiftX.trans {n : Nat} {Q : Exit → List Deferred → Env → AST → Prop} {e : Exit} {a : Act} {w0 w1 : World} {g0 g1 : G} (hE : Ev g0 w0 g1 w1) (h : LiftX n g1 w1 Q e a w) : LiftX n g0 w0 Q e a w := by
  obtain ⟨g2, τ, σ, h1, h2⟩ := h
  exact ⟨g2, τ, σ, hE.trans h1, h2⟩
end Go.Aff

namespace Go.Aff

variable {P : Program} {σ σ' : AST} {ops : Array Oper} {τ : Env} {KE : Env → AST → Prop}

def ptrO : AV → List Nat
  | .ptr (some (i, _)) => [i]
  | .arr i _ _ => [i]
  | _ => []
def lenK : AV → List Nat
  | .mp (some i) => [i]
  | _ => []
def reads (ρ : Operand → AV) : Op → List Nat
  | .load _ x => ptrO (ρ x)
  | .fieldAddr _ x _ => ptrO (ρ x)
  | .indexAddr _ x _ => ptrO (ρ x)
  | .convert _ _ x => ptrO (ρ x)
  | .call c => match c.callee, c.args.toList with
    | .builtin .len, [x] => lenK (ρ x)
    | _, _ => []
  | _ => []
def keeps (ks : List Nat) (σ σ' : AST) : Prop := ∀ k ∈ ks, σ'.objs[k]? = σ.objs[k]?

theorem opW_free {ρ : Operand → AV} {o : Oper} {p : AV → Prop} (he : effO P o = false) (hs : keeps (reads ρ o.op) σ σ') (h : opW P ρ o σ fun v _ => p v) : opW P ρ o σ' fun v _ => p v := by
  obtain ⟨dst, op, type, pos, after, guard⟩ := o
  cases op <;> simp only [effO] at he <;> simp only [opW] at h ⊢ <;> try exact h
  case convert s d x =>
    unfold convW at h ⊢
    split at h
    · exact h
    · rcases h with h | ⟨e, h1, h2, h3, h4⟩
      · exact .inl h
      · rw [h1] at he; simp at he
    · exact h
    · rename_i i p n ha
      rw [hs i (by simp [reads, ha, ptrO])]
      exact h
    · exact h
  case load t a =>
    unfold loadW at h ⊢
    split at h
    · rename_i i p ha
      rw [hs i (by simp [reads, ha, ptrO])]
      exact h
    · exact h
    · exact h.elim
  case fieldAddr t x i =>
    refine ⟨h.1, ?_⟩
    have h := h.2
    unfold fieldAddrW at h ⊢
    split at h
    · rename_i j p ha
      rw [hs j (by simp [reads, ha, ptrO])]
      exact h
    · exact h
    · exact h.elim
  case indexAddr t x i =>
    unfold indexAddrW at h ⊢
    split at h
    · split at h
      · exact h
      · rename_i j p ha
        rw [hs j (by simp [reads, ha, ptrO])]
        exact h
      · exact h
      · rename_i j p m ha
        rw [hs j (by simp [reads, ha, ptrO])]
        exact h
      · exact h.elim
    · exact h.elim
  case call c =>
    unfold callW at h ⊢
    split at h
    · rename_i hc; simp [hc] at he
    · rename_i hc
      split at h
      · rename_i x hx
        obtain ⟨t, ht, h⟩ := h
        refine ⟨t, ht, ?_⟩
        split at h
        · rename_i s hs'; simp only [hs']; exact h
        · rename_i tk xs hs'; simp only [hs']; exact h
        · rename_i i p n hs'; simp only [hs']; exact h
        · rename_i hs'; simp only [hs']; exact h
        · rename_i i hs'
          have e := hs i (by simp [reads, hc, hx, hs', lenK])
          simp only [hs', e]; exact h
        · exact h.elim
      · exact h.elim
    · rename_i hc; simp [hc] at he
    · exact h
    · exact h
    · rename_i hc; simp [hc] at he
    · rename_i hc; simp [hc] at he
    · rename_i hc; simp [hc] at he
    · rename_i hc; simp [hc] at he
    · exact h.elim
  all_goals (simp at he)

theorem step_same {o : Oper} {v : AV} (hl : ∀ t, lenOk (τ t)) (he : effO P o = false) (hs : keeps (reads (ev τ) o.op) σ σ') (h : stepW P ops o τ σ fun v' σ'' => v' = v ∧ σ'' = σ) :
    stepW P ops o τ σ' fun v' σ'' => v' = v ∧ σ'' = σ' := by
  have hlo : ∀ x, lenOk (ev τ x) := by
    intro x
    cases x with
    | tmp t => exact hl t
    | const c => simp only [ev]; exact lenOk_of (g := ⟨0, [], fun _ => none, []⟩) (w := default) (absV_rel _ _ c)
    | global _ => trivial
    | func f => trivial
  have key : opW P (ev τ) o σ (fun v' σ'' => v' = v ∧ σ'' = σ) → opW P (ev τ) o σ' (fun v' σ'' => v' = v ∧ σ'' = σ') := by
    intro h
    have h0 : opW P (ev τ) o σ (fun v' _ => v' = v) := opW_mono (fun _ _ h => h.1) h
    obtain ⟨u, hu, hk⟩ := op_det hlo he (opW_free he hs h0)
    subst hu
    exact hk _ ⟨rfl, rfl⟩
  unfold stepW at h ⊢
  split at h
  · exact key h
  · split at h
    · exact h.elim
    · split at h
      · exact ⟨fun e => key (h.1 e), fun e => ⟨(h.2 e).1, rfl⟩⟩
      · exact ⟨h.1, rfl⟩
      · exact h.elim

def seqE (P : Program) (ops : Array Oper) : List (Nat × Bool) → List Nat → Env → AST → (Env → AST → Prop) → Prop
  | [], ks, τ, σ, K => K τ σ
  | (i, true) :: r, ks, τ, σ, K => match gop ops i with
    | none => False
    | some o => stepW P ops o τ σ fun v σ' => keeps ks σ σ' ∧ seqE P ops r ks (τ.putO o.dst v) σ' K
  | (i, false) :: r, ks, τ, σ, K => match gop ops i with
    | none => False
    | some o => stepW P ops o τ σ fun v σ' => σ' = σ ∧ seqE P ops r (reads (ev τ) o.op ++ ks) (τ.putO o.dst v) σ' K

/-! ### As rules -/
def seqEt (P : Program) (ops : Array Oper) (o : Option Oper) (r : List (Nat × Bool)) (ks : List Nat) (τ : Env) (σ : AST) (K : Env → AST → Prop) : Prop := match o with
  | none => False
  | some o => stepW P ops o τ σ fun v σ' => keeps ks σ σ' ∧ seqE P ops r ks (τ.putO o.dst v) σ' K
def seqEf (P : Program) (ops : Array Oper) (o : Option Oper) (r : List (Nat × Bool)) (ks : List Nat) (τ : Env) (σ : AST) (K : Env → AST → Prop) : Prop := match o with
  | none => False
  | some o => stepW P ops o τ σ fun v σ' => σ' = σ ∧ seqE P ops r (reads (ev τ) o.op ++ ks) (τ.putO o.dst v) σ' K
variable {ks : List Nat}
theorem seqE_nil : seqE P ops [] ks τ σ KE = KE τ σ := nr rfl
theorem seqE_t {i : Nat} {r : List (Nat × Bool)} : seqE P ops ((i, true) :: r) ks τ σ KE = seqEt P ops (gop ops i) r ks τ σ KE := by simp only [seqE, seqEt]
theorem seqE_f {i : Nat} {r : List (Nat × Bool)} : seqE P ops ((i, false) :: r) ks τ σ KE = seqEf P ops (gop ops i) r ks τ σ KE := by simp only [seqE, seqEf]
theorem seqEt_some {o : Oper} {r : List (Nat × Bool)} : seqEt P ops (some o) r ks τ σ KE = stepW P ops o τ σ (@Lam ⟨fun v σ' => @Later ⟨keeps ks σ σ' ∧ seqE P ops r ks (τ.putO o.dst v) σ' KE⟩⟩) := nr rfl
theorem seqEf_some {o : Oper} {r : List (Nat × Bool)} : seqEf P ops (some o) r ks τ σ KE = stepW P ops o τ σ (@Lam ⟨fun v σ' => σ' = σ ∧ @Later ⟨seqE P ops r (reads (ev τ) o.op ++ ks) (τ.putO o.dst v) σ' KE⟩⟩) := nr rfl
theorem reads_load {ρ : Operand → AV} {t : TypeId} {x : Operand} : reads ρ (.load t x) = ptrO (ρ x) := rfl
theorem reads_fieldAddr {ρ : Operand → AV} {t : TypeId} {x : Operand} {i : Nat} : reads ρ (.fieldAddr t x i) = ptrO (ρ x) := rfl
theorem reads_indexAddr {ρ : Operand → AV} {t : TypeId} {x y : Operand} : reads ρ (.indexAddr t x y) = ptrO (ρ x) := rfl
theorem reads_move {ρ : Operand → AV} {x : Operand} : reads ρ (.move x) = [] := rfl
theorem reads_assign {ρ : Operand → AV} {x : Operand} : reads ρ (.assign x) = [] := rfl
theorem reads_index {ρ : Operand → AV} {t : TypeId} {x y : Operand} : reads ρ (.index t x y) = [] := rfl
theorem reads_convert {ρ : Operand → AV} {s d : TypeId} {x : Operand} : reads ρ (.convert s d x) = ptrO (ρ x) := rfl
theorem reads_binOp {ρ : Operand → AV} {op : BinOp} {t u : TypeId} {x y : Operand} : reads ρ (.binOp op t x y u) = [] := rfl
theorem reads_unOp {ρ : Operand → AV} {op : UnOp} {t : TypeId} {x : Operand} : reads ρ (.unOp op t x) = [] := rfl
theorem reads_extract {ρ : Operand → AV} {x : Operand} {i : Nat} : reads ρ (.extract x i) = [] := rfl
theorem reads_field {ρ : Operand → AV} {t : TypeId} {x : Operand} {i : Nat} : reads ρ (.field t x i) = [] := rfl
theorem reads_build {ρ : Operand → AV} {t : TypeId} {ps : Array (Nat × Operand)} : reads ρ (.build t ps) = [] := rfl
theorem reads_slice {ρ : Operand → AV} {t : TypeId} {x : Operand} {a b c : Option Operand} : reads ρ (.slice t x a b c) = [] := rfl
theorem reads_call {ρ : Operand → AV} {f : Operand} {zs9 : Array Operand} {ts : Array TypeId} : reads ρ (.call ⟨.value f, zs9, ts⟩) = [] := rfl
theorem reads_invoke {ρ : Operand → AV} {r : Operand} {m : String} {zs9 : Array Operand} {ts : Array TypeId} : reads ρ (.call ⟨.invoke r m, zs9, ts⟩) = [] := rfl
theorem reads_append {ρ : Operand → AV} {zs9 : Array Operand} {ts : Array TypeId} : reads ρ (.call ⟨.builtin .append, zs9, ts⟩) = [] := rfl
theorem reads_copy {ρ : Operand → AV} {zs9 : Array Operand} {ts : Array TypeId} : reads ρ (.call ⟨.builtin .copy, zs9, ts⟩) = [] := rfl
theorem reads_max {ρ : Operand → AV} {zs9 : Array Operand} {ts : Array TypeId} : reads ρ (.call ⟨.builtin .max, zs9, ts⟩) = [] := rfl
theorem reads_min {ρ : Operand → AV} {zs9 : Array Operand} {ts : Array TypeId} : reads ρ (.call ⟨.builtin .min, zs9, ts⟩) = [] := rfl
theorem reads_delete {ρ : Operand → AV} {zs9 : Array Operand} {ts : Array TypeId} : reads ρ (.call ⟨.builtin .delete, zs9, ts⟩) = [] := rfl
theorem reads_len {ρ : Operand → AV} {x : Operand} {ts : Array TypeId} : reads ρ (.call ⟨.builtin .len, #[x], ts⟩) = lenK (ρ x) := rfl
theorem lenK_str {s : List UInt8} : lenK (.str s) = [] := rfl
theorem lenK_slice {tk : Tk} {xs : List AV} : lenK (.slice tk xs) = [] := rfl
theorem lenK_arr {i n : Nat} {p : List Nat} : lenK (.arr i p n) = [] := rfl
theorem lenK_nil : lenK (.mp none) = [] := rfl
theorem lenK_mp {i : Nat} : lenK (.mp (some i)) = [i] := rfl
attribute [go_sem] reads_invoke reads_append reads_copy reads_max reads_min reads_delete reads_len lenK_str lenK_slice lenK_arr lenK_nil lenK_mp
theorem ptrO_some {i : Nat} {p : List Nat} : ptrO (.ptr (some (i, p))) = [i] := rfl
theorem ptrO_eptr {v : AV} : ptrO (.eptr v) = [] := rfl
theorem ptrO_slice {tk : Tk} {xs : List AV} : ptrO (.slice tk xs) = [] := rfl
theorem keeps_nil : keeps [] σ σ' := fun _ h => by simp at h
theorem keeps_refl : keeps ks σ σ := fun _ _ => rfl
attribute [go_sem ↓] seqE_nil seqE_t seqE_f seqEt_some seqEf_some
attribute [go_sem] reads_load reads_fieldAddr reads_indexAddr reads_move reads_assign reads_index reads_convert reads_binOp reads_unOp reads_extract reads_field reads_build reads_slice reads_call ptrO_some ptrO_eptr ptrO_slice List.nil_append
end Go.Aff

namespace Go.Aff

variable {P : Program} {σ σ' : AST} {K : AV → AST → Prop} {KV : AV → Prop} {KS : AST → Prop}

def AST.app (σ : AST) (l : List AObj) : AST := ⟨σ.objs ++ l, σ.toks⟩
theorem push_app {o : AObj} : σ.push o = σ.app [o] := rfl
theorem app_app {a b : List AObj} : (σ.app a).app b = σ.app (a ++ b) := by simp [AST.app]
theorem length_app {l : List AObj} : (σ.app l).objs.length = σ.objs.length + l.length := by simp [AST.app]
theorem objs_app {l : List AObj} {k : Nat} : (σ.app l).objs[σ.objs.length + k]? = l[k]? := by
  simp only [AST.app]; rw [List.getElem?_append_right (by omega)]; congr 1; omega
theorem objs_app0 {l : List AObj} : (σ.app l).objs[σ.objs.length]? = l[0]? := objs_app (k := 0)
theorem cellAt_app {l : List AObj} {k : Nat} {p : List Nat} : cellAt (σ.app l) (σ.objs.length + k) p = (l[k]?).bind fun o => objCell o p := by simp only [cellAt, objs_app]
theorem cellAt_app0 {l : List AObj} {p : List Nat} : cellAt (σ.app l) σ.objs.length p = (l[0]?).bind fun o => objCell o p := cellAt_app (k := 0)
theorem set_app {l : List AObj} {k : Nat} {o : AObj} : (σ.app l).set (σ.objs.length + k) o = σ.app (l.set k o) := by
  simp only [AST.app, AST.set]; congr 1
  rw [List.set_append_right _ _ (by omega)]; congr 2; omega
theorem set_app0 {l : List AObj} {o : AObj} : (σ.app l).set σ.objs.length o = σ.app (l.set 0 o) := set_app (k := 0)
theorem Ext.app (σ : AST) (l : List AObj) : Ext σ (σ.app l) := ⟨l, [], by simp [AST.app]⟩

def storeC (P : Program) (t : TypeId) (o : Option AObj) (p : List Nat) (x : AV) (K : AV → Prop) : Prop := match o with
  | some (.cells v) => match v.at p with
    | some u => fits P t x ∧ x.shape = u.shape ∧ x.known = true ∧ setOk v p x ∧ K (v.setAt p x)
    | none => False
  | _ => False
def storeV (P : Program) (t : TypeId) (v : AV) (u : Option AV) (p : List Nat) (x : AV) (K : AV → Prop) : Prop := match u with
  | some u => fits P t x ∧ x.shape = u.shape ∧ x.known = true ∧ setOk v p x ∧ K (v.setAt p x)
  | none => False
theorem store_ptr {t : TypeId} {j : Nat} {p : List Nat} {x : AV} : storeW P σ t (.ptr (some (j, p))) x KS = storeC P t σ.objs[j]? p x (@LamA _ ⟨fun v' => KS (σ.set j (.cells v'))⟩) := by
  simp only [storeW, storeC, LamA]
  cases h : σ.objs[j]? with
  | none => rfl
  | some o => cases o <;> rfl
theorem storeC_cells {t : TypeId} {v x : AV} {p : List Nat} : storeC P t (some (.cells v)) p x KV = storeV P t v (v.at p) p x KV := nr rfl
theorem storeV_some {t : TypeId} {v u x : AV} {p : List Nat} : storeV P t v (some u) p x KV = ((fits P t x ∧ x.shape = u.shape ∧ x.known = true ∧ setOk v p x) ∧ @Later ⟨KV (v.setAt p x)⟩) := by
  simp [storeV, Later, and_assoc]
theorem setOk_nil {v x : AV} : setOk v [] x = True := by cases v <;> simp [setOk]
theorem setAt_nil {v x : AV} : v.setAt [] x = x := by cases v <;> simp [AV.setAt]
theorem shape_int {k : IntKind} {n : Int} : (AV.int k n).shape = .leaf := by simp [AV.shape]
theorem shape_str {s : List UInt8} : (AV.str s).shape = .leaf := by simp [AV.shape]
theorem shape_bool {b : Bool} : (AV.bool b).shape = .leaf := by simp [AV.shape]
theorem shape_slice {tk : Tk} {xs : List AV} : (AV.slice tk xs).shape = .leaf := by simp [AV.shape]
theorem shape_ptr {p : Option (Nat × List Nat)} : (AV.ptr p).shape = .leaf := by simp [AV.shape]
theorem shape_fn {f : Fn} {a b : List AV} : (AV.fn f a b).shape = .leaf := by simp [AV.shape]

theorem cellAt_int {j i : Nat} {k : IntKind} {xs : List Int} {x : Int} (ho : σ.objs[j]? = some (.cells (.agg (xs.map (AV.int k))))) (hi : xs[i]? = some x) : cellAt σ j [i] = some (.int k x) := by
  simp [cellAt, ho, objCell, AV.at, hi]
theorem storeC_int {t i : Nat} {k : IntKind} {xs : List Int} {x y : Int} {o : Option AObj} (ho : o = some (.cells (.agg (xs.map (AV.int k))))) (hi : xs[i]? = some x) (hf : fits P t (.int k y)) (hK : KV (.agg ((xs.set i y).map (AV.int k)))) :
    storeC P t o [i] (.int k y) KV := by
  subst ho
  simp only [storeC, AV.at, List.getElem?_map, hi, Option.map_some, Option.bind_some]
  refine ⟨hf, by simp [AV.shape], rfl, ?_, ?_⟩
  · simp only [setOk, List.getElem?_map, hi, Option.map_some, Option.some.injEq]
    rintro v rfl; trivial
  · have : (AV.agg (xs.map (AV.int k))).setAt [i] (.int k y) = .agg ((xs.set i y).map (AV.int k)) := by
      simp only [AV.setAt, List.getElem?_map, hi, Option.map_some, List.map_set]
    rw [this]; exact hK

theorem one_cell {t : Tmp} {ty : TypeId} {τ : Env} : oneRes P τ σ (.cell t ty) KV = loadW P σ ty (τ t) KV := nr rfl
attribute [go_sem ↓] one_cell
attribute [go_sem] store_ptr storeC_cells storeV_some setOk_nil setAt_nil shape_int shape_str shape_bool shape_slice shape_ptr shape_fn
end Go.Aff

namespace Go.Aff

variable {P : Program} {σ σ' : AST} {K : AV → AST → Prop} {KV : AV → Prop} {KS : AST → Prop}

theorem fits_agg {t n : Nat} (ha : aggT P t = some true) (hc : P.cellsOf t = n) {v : AV} : fits P t v = (v.isAgg = true ∧ v.size = n) := by
  unfold fits
  rw [ha, hc, eq_iff_iff]
  constructor
  · rintro ⟨h1, h2⟩; exact ⟨(Option.some.inj h1).symm, h2.symm⟩
  · rintro ⟨h1, h2⟩; exact ⟨by rw [h1], h2.symm⟩
theorem shape_agg {ps : List AV} : (AV.agg ps).shape = .node (AV.shapes ps) := by simp [AV.shape]
theorem shapes_nil : AV.shapes [] = [] := rfl
theorem shapes_cons {p : AV} {r : List AV} : AV.shapes (p :: r) = p.shape :: AV.shapes r := by simp [AV.shapes]
theorem shape_dig {d : Dig} : (AV.dig d).shape = .dig := by simp [AV.shape]
/-! ### Two owners -/
def apart (a b : Tk) : Prop := ∀ k, a = .own k → b ≠ .own k
theorem apart_full {b : Tk} : apart .full b := fun k h => by cases h
theorem apart.symm {a b : Tk} (h : apart a b) : apart b a := fun k h1 h2 => h k h2 h1
theorem canApp_apart {a b : Tk} {n m e f : Nat} (h : apart a b) (hc : canApp σ b m f) : canApp (growS σ a n e) b m f := by
  cases b with
  | none => exact hc.elim
  | lit => exact hc.elim
  | full => trivial
  | own k =>
    simp only [canApp] at hc ⊢
    cases a with
    | none => exact hc
    | lit => exact hc
    | full =>
      simp only [growS, AST.tok]
      rw [List.getElem?_append_left (List.getElem?_eq_some_iff.1 hc).1]; exact hc
    | own j =>
      have hne : j ≠ k := fun e => by subst e; exact h j rfl rfl
      simp only [growS, AST.setTok]
      rw [List.getElem?_set_ne hne]; exact hc
theorem apart_grow {a b : Tk} {m f : Nat} (h : apart a b) (hc : canApp σ b m f) : apart (growT σ a) b := by
  cases a with
  | full =>
    intro k hk
    cases hk
    intro e
    subst e
    have := (List.getElem?_eq_some_iff.1 hc).1
    omega
  | own j => exact h
  | none => exact h
  | lit => exact h
theorem canApp_app {tk : Tk} {n e : Nat} {l : List AObj} : canApp (σ.app l) tk n e = canApp σ tk n e := by cases tk <;> rfl
theorem canApp_set {tk : Tk} {n e i : Nat} {o : AObj} : canApp (σ.set i o) tk n e = canApp σ tk n e := by cases tk <;> rfl
attribute [go_sem] shape_agg shapes_nil shapes_cons shape_dig
end Go.Aff

namespace Go.Aff

variable {P : Program} {σ σ' : AST} {ops : Array Oper} {τ : Env} {KE : Env → AST → Prop}

def seqF (P : Program) (ops : Array Oper) : List (Nat × Nat) → List Nat → Env → AST → (Env → AST → Prop) → Prop
  | [], ks, τ, σ, K => K τ σ
  | (i, 1) :: r, ks, τ, σ, K => match gop ops i with
    | none => False
    | some o => stepW P ops o τ σ fun v σ' => keeps ks σ σ' ∧ seqF P ops r ks (τ.putO o.dst v) σ' K
  | (i, 0) :: r, ks, τ, σ, K => match gop ops i with
    | none => False
    | some o => stepW P ops o τ σ fun v σ' => σ' = σ ∧ seqF P ops r (reads (ev τ) o.op ++ ks) (τ.putO o.dst v) σ' K
  | (i, _) :: r, ks, τ, σ, K => match gop ops i with
    | none => False
    | some o => stepW P ops o τ σ fun v σ' => σ' = σ ∧ seqF P ops r ks (τ.putO o.dst v) σ' K

def seqF0 (P : Program) (ops : Array Oper) (o : Option Oper) (r : List (Nat × Nat)) (ks : List Nat) (τ : Env) (σ : AST) (K : Env → AST → Prop) : Prop := match o with
  | none => False
  | some o => stepW P ops o τ σ fun v σ' => σ' = σ ∧ seqF P ops r (reads (ev τ) o.op ++ ks) (τ.putO o.dst v) σ' K
def seqF1 (P : Program) (ops : Array Oper) (o : Option Oper) (r : List (Nat × Nat)) (ks : List Nat) (τ : Env) (σ : AST) (K : Env → AST → Prop) : Prop := match o with
  | none => False
  | some o => stepW P ops o τ σ fun v σ' => keeps ks σ σ' ∧ seqF P ops r ks (τ.putO o.dst v) σ' K
def seqF2 (P : Program) (ops : Array Oper) (o : Option Oper) (r : List (Nat × Nat)) (ks : List Nat) (τ : Env) (σ : AST) (K : Env → AST → Prop) : Prop := match o with
  | none => False
  | some o => stepW P ops o τ σ fun v σ' => σ' = σ ∧ seqF P ops r ks (τ.putO o.dst v) σ' K
variable {ks : List Nat}
theorem seqF_nil : seqF P ops [] ks τ σ KE = KE τ σ := nr rfl
theorem seqF_1 {i : Nat} {r : List (Nat × Nat)} : seqF P ops ((i, 1) :: r) ks τ σ KE = seqF1 P ops (gop ops i) r ks τ σ KE := by simp only [seqF, seqF1]
theorem seqF_0 {i : Nat} {r : List (Nat × Nat)} : seqF P ops ((i, 0) :: r) ks τ σ KE = seqF0 P ops (gop ops i) r ks τ σ KE := by simp only [seqF, seqF0]
theorem seqF_2 {i : Nat} {r : List (Nat × Nat)} : seqF P ops ((i, 2) :: r) ks τ σ KE = seqF2 P ops (gop ops i) r ks τ σ KE := by simp only [seqF, seqF2]
theorem seqF1_some {o : Oper} {r : List (Nat × Nat)} : seqF1 P ops (some o) r ks τ σ KE = stepW P ops o τ σ (@Lam ⟨fun v σ' => @Later ⟨keeps ks σ σ' ∧ seqF P ops r ks (τ.putO o.dst v) σ' KE⟩⟩) := nr rfl
theorem seqF0_some {o : Oper} {r : List (Nat × Nat)} : seqF0 P ops (some o) r ks τ σ KE = stepW P ops o τ σ (@Lam ⟨fun v σ' => σ' = σ ∧ @Later ⟨seqF P ops r (reads (ev τ) o.op ++ ks) (τ.putO o.dst v) σ' KE⟩⟩) := nr rfl
theorem seqF2_some {o : Oper} {r : List (Nat × Nat)} : seqF2 P ops (some o) r ks τ σ KE = stepW P ops o τ σ (@Lam ⟨fun v σ' => σ' = σ ∧ @Later ⟨seqF P ops r ks (τ.putO o.dst v) σ' KE⟩⟩) := nr rfl
attribute [go_sem ↓] seqF_nil seqF_0 seqF_1 seqF_2 seqF0_some seqF1_some seqF2_some
theorem reads_buildSlice {ρ : Operand → AV} {t : TypeId} {n : Nat} {ps : Array (Nat × Operand)} : reads ρ (.buildSlice t n ps) = [] := rfl
attribute [go_sem] reads_buildSlice

theorem res_ct {a b : Nat} {ty : TypeId} {KV : AV → Prop} : resW P [.cell a ty, .tmp b] τ σ KV = loadW P σ ty (τ a) (@LamA _ ⟨fun x => (x.known = true ∧ (τ b).known = true) ∧ @Later ⟨KV (.tuple [x, τ b])⟩⟩) := by
  simp [resW, resList, oneRes, Later, LamA]
theorem res_tc {a b : Nat} {ty : TypeId} {KV : AV → Prop} : resW P [.tmp a, .cell b ty] τ σ KV = loadW P σ ty (τ b) (@LamA _ ⟨fun x => ((τ a).known = true ∧ x.known = true) ∧ @Later ⟨KV (.tuple [τ a, x])⟩⟩) := by
  simp [resW, resList, oneRes, Later, LamA]
attribute [go_sem ↓] res_ct res_tc
/-! ### Stores into parts -/
def setAtO (ps : List AV) (i : Nat) (p : List Nat) (x : AV) : Option AV → AV
  | some v => .agg (ps.set i (v.setAt p x))
  | none => .agg ps
theorem setAt_agg {ps : List AV} {i : Nat} {p : List Nat} {x : AV} : (AV.agg ps).setAt (i :: p) x = setAtO ps i p x ps[i]? := by
  simp only [AV.setAt]; cases ps[i]? <;> rfl
theorem setAtO_some {ps : List AV} {i : Nat} {p : List Nat} {x v : AV} : setAtO ps i p x (some v) = .agg (ps.set i (v.setAt p x)) := rfl
def setOkO (p : List Nat) (x : AV) : Option AV → Prop
  | some v => setOk v p x
  | none => True
theorem setOk_agg {ps : List AV} {i : Nat} {p : List Nat} {x : AV} : setOk (.agg ps) (i :: p) x = setOkO p x ps[i]? := by
  simp only [setOk, eq_iff_iff]
  cases h : ps[i]? with
  | none => simp [setOkO]
  | some v => simp [setOkO]
theorem setOkO_some {p : List Nat} {x v : AV} : setOkO p x (some v) = setOk v p x := rfl
attribute [go_sem] setAt_agg setAtO_some setOk_agg setOkO_some
end Go.Aff

namespace Go.Aff

variable {τ : Env} {P : Program} {σ σ' : AST} {K : AV → AST → Prop} {KV : AV → Prop} {KS : AST → Prop}

def isPtrT (P : Program) (t : TypeId) : Bool := match P.underlying t with | some (.pointer _) => true | _ => false
theorem isPtrT_iff {t : TypeId} (h : isPtrT P t = true) : ∃ a, P.underlying t = some (.pointer a) := by
  unfold isPtrT at h; split at h
  · exact ⟨_, by assumption⟩
  · cases h
theorem bin_ptr_eql {t : TypeId} (hu : isPtrT P t = true) {p : Option (Nat × List Nat)} : binW P .eql t (.ptr p) (.ptr none) KV = KV (.bool p.isNone) := by
  obtain ⟨a, h⟩ := isPtrT_iff hu
  cases p <;> simp [binW, eqW, eqA, h]
theorem bin_ptr_neq {t : TypeId} (hu : isPtrT P t = true) {p : Option (Nat × List Nat)} : binW P .neq t (.ptr p) (.ptr none) KV = KV (.bool !p.isNone) := by
  obtain ⟨a, h⟩ := isPtrT_iff hu
  cases p <;> simp [binW, eqW, eqA, h]

theorem nilCheck_some {q : Nat × List Nat} : nilCheckW (.ptr (some q)) KV = KV (.ptr (some q)) := nr rfl
theorem cellAt_known {j : Nat} {v : AV} (h : σ.objs[j]? = some (.cells v)) (p : List Nat) : cellAt σ j p = v.at p := by simp only [cellAt, h, Option.bind_some, objCell]
theorem keeps_none : keeps [] σ σ' = True := by simp only [eq_iff_iff, iff_true]; exact keeps_nil
theorem reads_nilCheck {ρ : Operand → AV} {x : Operand} : reads ρ (.nilCheck x) = [] := rfl
attribute [go_sem] reads_nilCheck keeps_none nilCheck_some isPtrT bin_ptr_eql bin_ptr_neq Option.isNone_some Option.isNone_none

theorem mm_min {k : IntKind} {a b : Int} : mmW false [.int k a, .int k b] KV = KV (.int k (min a b)) := by simp [mmW]
attribute [go_sem] mm_min
theorem res_ttc {a b c : Nat} {ty : TypeId} : resW P [.tmp a, .tmp b, .cell c ty] τ σ KV = loadW P σ ty (τ c) (@LamA _ ⟨fun x => ((τ a).known = true ∧ (τ b).known = true ∧ x.known = true) ∧ @Later ⟨KV (.tuple [τ a, τ b, x])⟩⟩) := by
  simp [resW, resList, oneRes, Later, LamA]
theorem res_ttt {a b c : Nat} : resW P [.tmp a, .tmp b, .tmp c] τ σ KV = (((τ a).known = true ∧ (τ b).known = true ∧ (τ c).known = true) ∧ @Later ⟨KV (.tuple [τ a, τ b, τ c])⟩) := by
  simp [resW, resList, oneRes, Later, LamA]
attribute [go_sem ↓] res_ttc
end Go.Aff

namespace Go.Aff.L21
open Go.Proofs Go.Aff Go.Aff.L01 Classical
set_option maxRecDepth 20000
attribute [local go_sem] push_app app_app length_app cellAt_app cellAt_app0 set_app set_app0 objs_app objs_app0 List.cons_append List.nil_append List.length_cons List.length_nil List.getElem?_cons_zero List.getElem?_cons_succ List.set_cons_zero List.set_cons_succ
attribute [-go_sem] cellAt_new
theorem zero3 : zeroA Try.prog 12 3 = .int .i64 0 := by kernel_rfl
theorem fits5 {v : AV} : fits Try.prog 5 v = (v.isAgg = false ∧ v.size = 1) := fits_leaf (by kernel_rfl) (by kernel_rfl)
theorem zero5 : zeroA Try.prog 12 5 = .int .u8 0 := by kernel_rfl
theorem fits22 {v : AV} : fits Try.prog 22 v = (v.isAgg = false ∧ v.size = 1) := fits_leaf (by kernel_rfl) (by kernel_rfl)
theorem fits29 {v : AV} : fits Try.prog 43 v = (v.isAgg = false ∧ v.size = 1) := fits_leaf (by kernel_rfl) (by kernel_rfl)
theorem fits43 {v : AV} : fits Try.prog 123 v = (v.isAgg = false ∧ v.size = 1) := fits_leaf (by kernel_rfl) (by kernel_rfl)
theorem fits44 {v : AV} : fits Try.prog 50 v = (v.isAgg = false ∧ v.size = 1) := fits_leaf (by kernel_rfl) (by kernel_rfl)
theorem fits46 {v : AV} : fits Try.prog 84 v = (v.isAgg = true ∧ v.size = 6) := fits_agg (by kernel_rfl) (by kernel_rfl)
theorem p46_0 {ps : List AV} {x : AV} : partIs Try.prog 84 ps 0 x = (0 = AV.sizes (ps.take 0) ∧ fits Try.prog 3 x) := partIs_of (by kernel_rfl)
theorem p46_1 {ps : List AV} {x : AV} : partIs Try.prog 84 ps 1 x = (1 = AV.sizes (ps.take 1) ∧ fits Try.prog 3 x) := partIs_of (by kernel_rfl)
theorem p46_2 {ps : List AV} {x : AV} : partIs Try.prog 84 ps 2 x = (2 = AV.sizes (ps.take 2) ∧ fits Try.prog 3 x) := partIs_of (by kernel_rfl)
theorem p46_3 {ps : List AV} {x : AV} : partIs Try.prog 84 ps 3 x = (3 = AV.sizes (ps.take 3) ∧ fits Try.prog 50 x) := partIs_of (by kernel_rfl)
theorem p46_4 {ps : List AV} {x : AV} : partIs Try.prog 84 ps 4 x = (4 = AV.sizes (ps.take 4) ∧ fits Try.prog 43 x) := partIs_of (by kernel_rfl)
theorem p46_5 {ps : List AV} {x : AV} : partIs Try.prog 84 ps 5 x = (5 = AV.sizes (ps.take 5) ∧ fits Try.prog 50 x) := partIs_of (by kernel_rfl)
theorem zero46 : zeroA Try.prog 12 84 = .agg [.int .i64 0, .int .i64 0, .int .i64 0, .slice .full [], .slice .full [], .slice .full []] := by kernel_rfl
theorem zeroOf46 : ZeroOf Try.prog 84 (.agg [.int .i64 0, .int .i64 0, .int .i64 0, .slice .full [], .slice .full [], .slice .full []]) := ⟨_, _, rfl, rfl, rfl, rfl, rfl⟩
attribute [local go_sem ↓] res_ttt
theorem E29 : ElemT Try.prog 43 9 1 16 := ⟨rfl, by kernel_rfl, by kernel_rfl, ⟨.str [], ⟨_, _, rfl, rfl, rfl, rfl, rfl⟩⟩, by decide⟩
theorem E44 : ElemT Try.prog 50 3 1 8 := ⟨rfl, by kernel_rfl, by kernel_rfl, ⟨.int .i64 0, ⟨_, _, rfl, rfl, rfl, rfl, rfl⟩⟩, by decide⟩
theorem root_c {n : Int} (h0 : -9223372036854775808 ≤ n) (h1 : n ≤ 9223372036854775807) {σ : AST} {K : AV → AST → Prop} (hK : K (.str (numS n)) σ) : TCalls Try.prog 40 [.int .i64 n] σ K := by
  refine tcalls_walk Try.f40 _ [.tmp 2] Try.func40 rfl rfl rfl mixed (Nat.le_of_ble_eq_true rfl) rfl fun hlen => ?_
  simp -dsimp only [↓reduceIte, go_sem]
  refine number_c h0 h1 ?_
  simp -dsimp only [↓reduceIte, go_sem]
  exact hK

theorem many_c {n : Nat} (hn : n ≤ 1000000) {σ : AST} {K : AV → AST → Prop} (hK : K (.int .i64 (((n + 31) / 32 : Nat) : Int)) σ) : TCalls Try.prog 120 [.int .i64 n] σ K := by
  refine tcalls_walk Try.f120 _ [.tmp 2] Try.func120 rfl rfl rfl mixed (Nat.le_of_ble_eq_true rfl) rfl fun hlen => ?_
  simp -dsimp only [↓reduceIte, go_sem]
  rw [wrap_i64 (n := (n : Int) + 32) (by omega) (by omega), wrap_i64 (n := (n : Int) + 32 - 1) (by omega) (by omega), show (n : Int) + 32 - 1 = ((n + 31 : Nat) : Int) by omega]
  rw [show ((n + 31 : Nat) : Int).tdiv 32 = (((n + 31) / 32 : Nat) : Int) from tdiv_lit (n + 31) 31, wrap_i64 (by omega) (by omega)]
  exact hK

end Go.Aff.L21

namespace Go.Aff.L21
open Go.Proofs Go.Aff Go.Aff.L01 Classical
set_option maxRecDepth 20000
attribute [local go_sem] push_app app_app length_app cellAt_app cellAt_app0 set_app set_app0 objs_app objs_app0 List.cons_append List.nil_append List.length_cons List.length_nil List.getElem?_cons_zero List.getElem?_cons_succ List.set_cons_zero List.set_cons_succ
attribute [-go_sem] cellAt_new
attribute [local go_sem] Try.underlying9 fits29 Try.underlying43 fits44 Try.underlying50 p46_0 p46_1 p46_2 p46_3 p46_4 p46_5 Try.underlying84
attribute [local go_sem] fits3 fits9

attribute [local go_sem ↓] blockQ_exit2
theorem letter_eq (b : UInt8) : letterB b = ((decide ((97 : Int) ≤ b.toNat) && decide ((b.toNat : Int) ≤ 122)) || ((decide ((48 : Int) ≤ b.toNat) && decide ((b.toNat : Int) ≤ 57)) || (((b.toNat : Int) == 46) || (((b.toNat : Int) == 45) || ((b.toNat : Int) == 95))))) := by
  rw [Bool.eq_iff_iff]
  simp only [letterB, decide_eq_true_eq, Bool.or_eq_true, Bool.and_eq_true, beq_iff_eq]
  omega
theorem name_c {s : List UInt8} {σ : AST} {K : AV → AST → Prop} (hK : K (.bool (nameB s)) σ) : TCalls Try.prog 117 [.str s] σ K := by
  refine tcalls_walk Try.f117 _ [.tmp 2] Try.func117 rfl rfl rfl mixed (Nat.le_of_ble_eq_true rfl) rfl fun hlen => ?_
  have bad : ¬ (s ≠ [] ∧ s.length ≤ 12 ∧ s ≠ [46] ∧ s ≠ [46, 46] ∧ ∀ b ∈ s, letterB b = true) → K (.bool false) σ := fun h => by
    rw [nameB, decide_eq_false h] at hK; exact hK
  simp -dsimp only [↓reduceIte, go_sem]
  refine guardV_split (fun h1 => ?_) (fun h1 => ?_) <;> (try rw [h1])
  · have h1 : s ≠ [] := by simpa using h1
    simp -dsimp only [↓reduceIte, go_sem]
    refine arr_intro fun _ => ?_
    simp -dsimp only [↓reduceIte, go_sem]
    refine guardV_split (fun h2 => ?_) (fun h2 => ?_) <;> (try rw [h2])
    · have h2 : s.length ≤ 12 := by simp at h2; omega
      simp -dsimp only [↓reduceIte, go_sem]
      refine guardV_split (fun h3 => ?_) (fun h3 => ?_) <;> (try rw [h3])
      · have h3 : s ≠ [46] := by simpa using h3
        simp -dsimp only [↓reduceIte, go_sem]
        refine boolW_split (fun h4 => ?_) (fun h4 => ?_)
        · have h4 : s = [46, 46] := by simpa using h4
          simp -dsimp only [↓reduceIte, go_sem]
          exact bad (fun h => h.2.2.2.1 h4)
        · have h4 : s ≠ [46, 46] := by simpa using h4
          simp -dsimp only [↓reduceIte, go_sem]
          refine arr_intro fun _ => ?_
          simp -dsimp only [↓reduceIte, go_sem]
          refine awp_rounds (fun (i : Nat) τ s' => s' = σ ∧ i ≤ s.length ∧ (∀ j c, j < i → s[j]? = some c → letterB c = true) ∧ τ 0 = .str s ∧ τ 3 = .bool true ∧ τ 22 = .int .i64 s.length ∧ τ 23 = .int .i64 i) (fun i => s.length - i) 0 ?_ ?_
          · refine ⟨rfl, by omega, fun j c h => by omega, ?_, ?_, ?_, ?_⟩ <;> (try simp only [go_sem]) <;> rfl
          · rintro i τ s' ⟨rfl, hi, hall, t0, t3, t22, t23⟩
            simp -dsimp only [↓reduceIte, go_sem, t0, t3, t22, t23]
            refine boolW_split (fun hb => ?_) (fun hb => ?_)
            · have hb : i < s.length := by simp at hb; omega
              obtain ⟨b, hb1⟩ := get_lt hb
              have hmem : b ∈ s := List.mem_iff_getElem?.2 ⟨i, hb1⟩
              simp -dsimp only [↓reduceIte, go_sem, t0, t3, t22, t23]
              refine nth_get hb1 ?_
              have hl := letter_eq b
              have step : letterB b = true → ∀ j c, j < i + 1 → s[j]? = some c → letterB c = true := fun h j c hj hc => by
                by_cases hji : j < i
                · exact hall j c hji hc
                · obtain rfl : j = i := by omega
                  rw [hb1] at hc; cases hc; exact h
              generalize hp : decide ((97 : Int) ≤ b.toNat) = p1 at hl
              generalize hq : decide ((b.toNat : Int) ≤ 122) = p2 at hl
              generalize hr : decide ((48 : Int) ≤ b.toNat) = p3 at hl
              generalize hs : decide ((b.toNat : Int) ≤ 57) = p4 at hl
              generalize ht : ((b.toNat : Int) == 46) = p5 at hl
              generalize hu : ((b.toNat : Int) == 45) = p6 at hl
              generalize hv : ((b.toNat : Int) == 95) = p7 at hl
              cases p1
              · cases p3
                · cases p5
                  · cases p6
                    · cases p7
                      · simp -dsimp only [↓reduceIte, go_sem, t0, t3, t22, t23, hp, hq, hr, hs, ht, hu, hv]
                        simp only [Bool.true_and, Bool.false_and, Bool.or_true, Bool.true_or, Bool.or_false, Bool.false_or, Bool.and_true, Bool.and_false, Bool.or_self, Bool.and_self] at hl
                        exact bad (fun h => by have := h.2.2.2.2 b hmem; rw [hl] at this; cases this)
                      · simp -dsimp only [↓reduceIte, go_sem, t0, t3, t22, t23, hp, hq, hr, hs, ht, hu, hv]
                        simp only [Bool.true_and, Bool.false_and, Bool.or_true, Bool.true_or, Bool.or_false, Bool.false_or, Bool.and_true, Bool.and_false, Bool.or_self, Bool.and_self] at hl
                        first
                        | (rw [wrap_i64 (by omega) (by omega)]; exact ⟨i + 1, by omega, by omega, step hl, rfl⟩)
                        | (rw [wrap_i64 (by omega) (by omega)]; refine later_intro ⟨i + 1, by omega, rfl, by omega, step hl, ?_, ?_, ?_, ?_⟩ <;> (try simp only [go_sem, t0, t3, t22, t23]) <;> rfl)
                    · simp -dsimp only [↓reduceIte, go_sem, t0, t3, t22, t23, hp, hq, hr, hs, ht, hu, hv]
                      simp only [Bool.true_and, Bool.false_and, Bool.or_true, Bool.true_or, Bool.or_false, Bool.false_or, Bool.and_true, Bool.and_false, Bool.or_self, Bool.and_self] at hl
                      first
                      | (rw [wrap_i64 (by omega) (by omega)]; exact ⟨i + 1, by omega, by omega, step hl, rfl⟩)
                      | (rw [wrap_i64 (by omega) (by omega)]; refine later_intro ⟨i + 1, by omega, rfl, by omega, step hl, ?_, ?_, ?_, ?_⟩ <;> (try simp only [go_sem, t0, t3, t22, t23]) <;> rfl)
                  · simp -dsimp only [↓reduceIte, go_sem, t0, t3, t22, t23, hp, hq, hr, hs, ht, hu, hv]
                    simp only [Bool.true_and, Bool.false_and, Bool.or_true, Bool.true_or, Bool.or_false, Bool.false_or, Bool.and_true, Bool.and_false, Bool.or_self, Bool.and_self] at hl
                    first
                    | (rw [wrap_i64 (by omega) (by omega)]; exact ⟨i + 1, by omega, by omega, step hl, rfl⟩)
                    | (rw [wrap_i64 (by omega) (by omega)]; refine later_intro ⟨i + 1, by omega, rfl, by omega, step hl, ?_, ?_, ?_, ?_⟩ <;> (try simp only [go_sem, t0, t3, t22, t23]) <;> rfl)
                · cases p4
                  · cases p5
                    · cases p6
                      · cases p7
                        · simp -dsimp only [↓reduceIte, go_sem, t0, t3, t22, t23, hp, hq, hr, hs, ht, hu, hv]
                          simp only [Bool.true_and, Bool.false_and, Bool.or_true, Bool.true_or, Bool.or_false, Bool.false_or, Bool.and_true, Bool.and_false, Bool.or_self, Bool.and_self] at hl
                          exact bad (fun h => by have := h.2.2.2.2 b hmem; rw [hl] at this; cases this)
                        · simp -dsimp only [↓reduceIte, go_sem, t0, t3, t22, t23, hp, hq, hr, hs, ht, hu, hv]
                          simp only [Bool.true_and, Bool.false_and, Bool.or_true, Bool.true_or, Bool.or_false, Bool.false_or, Bool.and_true, Bool.and_false, Bool.or_self, Bool.and_self] at hl
                          first
                          | (rw [wrap_i64 (by omega) (by omega)]; exact ⟨i + 1, by omega, by omega, step hl, rfl⟩)
                          | (rw [wrap_i64 (by omega) (by omega)]; refine later_intro ⟨i + 1, by omega, rfl, by omega, step hl, ?_, ?_, ?_, ?_⟩ <;> (try simp only [go_sem, t0, t3, t22, t23]) <;> rfl)
                      · simp -dsimp only [↓reduceIte, go_sem, t0, t3, t22, t23, hp, hq, hr, hs, ht, hu, hv]
                        simp only [Bool.true_and, Bool.false_and, Bool.or_true, Bool.true_or, Bool.or_false, Bool.false_or, Bool.and_true, Bool.and_false, Bool.or_self, Bool.and_self] at hl
                        first
                        | (rw [wrap_i64 (by omega) (by omega)]; exact ⟨i + 1, by omega, by omega, step hl, rfl⟩)
                        | (rw [wrap_i64 (by omega) (by omega)]; refine later_intro ⟨i + 1, by omega, rfl, by omega, step hl, ?_, ?_, ?_, ?_⟩ <;> (try simp only [go_sem, t0, t3, t22, t23]) <;> rfl)
                    · simp -dsimp only [↓reduceIte, go_sem, t0, t3, t22, t23, hp, hq, hr, hs, ht, hu, hv]
                      simp only [Bool.true_and, Bool.false_and, Bool.or_true, Bool.true_or, Bool.or_false, Bool.false_or, Bool.and_true, Bool.and_false, Bool.or_self, Bool.and_self] at hl
                      first
                      | (rw [wrap_i64 (by omega) (by omega)]; exact ⟨i + 1, by omega, by omega, step hl, rfl⟩)
                      | (rw [wrap_i64 (by omega) (by omega)]; refine later_intro ⟨i + 1, by omega, rfl, by omega, step hl, ?_, ?_, ?_, ?_⟩ <;> (try simp only [go_sem, t0, t3, t22, t23]) <;> rfl)
                  · simp -dsimp only [↓reduceIte, go_sem, t0, t3, t22, t23, hp, hq, hr, hs, ht, hu, hv]
                    simp only [Bool.true_and, Bool.false_and, Bool.or_true, Bool.true_or, Bool.or_false, Bool.false_or, Bool.and_true, Bool.and_false, Bool.or_self, Bool.and_self] at hl
                    first
                    | (rw [wrap_i64 (by omega) (by omega)]; exact ⟨i + 1, by omega, by omega, step hl, rfl⟩)
                    | (rw [wrap_i64 (by omega) (by omega)]; refine later_intro ⟨i + 1, by omega, rfl, by omega, step hl, ?_, ?_, ?_, ?_⟩ <;> (try simp only [go_sem, t0, t3, t22, t23]) <;> rfl)
              · cases p2
                · cases p3
                  · cases p5
                    · cases p6
                      · cases p7
                        · simp -dsimp only [↓reduceIte, go_sem, t0, t3, t22, t23, hp, hq, hr, hs, ht, hu, hv]
                          simp only [Bool.true_and, Bool.false_and, Bool.or_true, Bool.true_or, Bool.or_false, Bool.false_or, Bool.and_true, Bool.and_false, Bool.or_self, Bool.and_self] at hl
                          exact bad (fun h => by have := h.2.2.2.2 b hmem; rw [hl] at this; cases this)
                        · simp -dsimp only [↓reduceIte, go_sem, t0, t3, t22, t23, hp, hq, hr, hs, ht, hu, hv]
                          simp only [Bool.true_and, Bool.false_and, Bool.or_true, Bool.true_or, Bool.or_false, Bool.false_or, Bool.and_true, Bool.and_false, Bool.or_self, Bool.and_self] at hl
                          first
                          | (rw [wrap_i64 (by omega) (by omega)]; exact ⟨i + 1, by omega, by omega, step hl, rfl⟩)
                          | (rw [wrap_i64 (by omega) (by omega)]; refine later_intro ⟨i + 1, by omega, rfl, by omega, step hl, ?_, ?_, ?_, ?_⟩ <;> (try simp only [go_sem, t0, t3, t22, t23]) <;> rfl)
                      · simp -dsimp only [↓reduceIte, go_sem, t0, t3, t22, t23, hp, hq, hr, hs, ht, hu, hv]
                        simp only [Bool.true_and, Bool.false_and, Bool.or_true, Bool.true_or, Bool.or_false, Bool.false_or, Bool.and_true, Bool.and_false, Bool.or_self, Bool.and_self] at hl
                        first
                        | (rw [wrap_i64 (by omega) (by omega)]; exact ⟨i + 1, by omega, by omega, step hl, rfl⟩)
                        | (rw [wrap_i64 (by omega) (by omega)]; refine later_intro ⟨i + 1, by omega, rfl, by omega, step hl, ?_, ?_, ?_, ?_⟩ <;> (try simp only [go_sem, t0, t3, t22, t23]) <;> rfl)
                    · simp -dsimp only [↓reduceIte, go_sem, t0, t3, t22, t23, hp, hq, hr, hs, ht, hu, hv]
                      simp only [Bool.true_and, Bool.false_and, Bool.or_true, Bool.true_or, Bool.or_false, Bool.false_or, Bool.and_true, Bool.and_false, Bool.or_self, Bool.and_self] at hl
                      first
                      | (rw [wrap_i64 (by omega) (by omega)]; exact ⟨i + 1, by omega, by omega, step hl, rfl⟩)
                      | (rw [wrap_i64 (by omega) (by omega)]; refine later_intro ⟨i + 1, by omega, rfl, by omega, step hl, ?_, ?_, ?_, ?_⟩ <;> (try simp only [go_sem, t0, t3, t22, t23]) <;> rfl)
                  · cases p4
                    · cases p5
                      · cases p6
                        · cases p7
                          · simp -dsimp only [↓reduceIte, go_sem, t0, t3, t22, t23, hp, hq, hr, hs, ht, hu, hv]
                            simp only [Bool.true_and, Bool.false_and, Bool.or_true, Bool.true_or, Bool.or_false, Bool.false_or, Bool.and_true, Bool.and_false, Bool.or_self, Bool.and_self] at hl
                            exact bad (fun h => by have := h.2.2.2.2 b hmem; rw [hl] at this; cases this)
                          · simp -dsimp only [↓reduceIte, go_sem, t0, t3, t22, t23, hp, hq, hr, hs, ht, hu, hv]
                            simp only [Bool.true_and, Bool.false_and, Bool.or_true, Bool.true_or, Bool.or_false, Bool.false_or, Bool.and_true, Bool.and_false, Bool.or_self, Bool.and_self] at hl
                            first
                            | (rw [wrap_i64 (by omega) (by omega)]; exact ⟨i + 1, by omega, by omega, step hl, rfl⟩)
                            | (rw [wrap_i64 (by omega) (by omega)]; refine later_intro ⟨i + 1, by omega, rfl, by omega, step hl, ?_, ?_, ?_, ?_⟩ <;> (try simp only [go_sem, t0, t3, t22, t23]) <;> rfl)
                        · simp -dsimp only [↓reduceIte, go_sem, t0, t3, t22, t23, hp, hq, hr, hs, ht, hu, hv]
                          simp only [Bool.true_and, Bool.false_and, Bool.or_true, Bool.true_or, Bool.or_false, Bool.false_or, Bool.and_true, Bool.and_false, Bool.or_self, Bool.and_self] at hl
                          first
                          | (rw [wrap_i64 (by omega) (by omega)]; exact ⟨i + 1, by omega, by omega, step hl, rfl⟩)
                          | (rw [wrap_i64 (by omega) (by omega)]; refine later_intro ⟨i + 1, by omega, rfl, by omega, step hl, ?_, ?_, ?_, ?_⟩ <;> (try simp only [go_sem, t0, t3, t22, t23]) <;> rfl)
                      · simp -dsimp only [↓reduceIte, go_sem, t0, t3, t22, t23, hp, hq, hr, hs, ht, hu, hv]
                        simp only [Bool.true_and, Bool.false_and, Bool.or_true, Bool.true_or, Bool.or_false, Bool.false_or, Bool.and_true, Bool.and_false, Bool.or_self, Bool.and_self] at hl
                        first
                        | (rw [wrap_i64 (by omega) (by omega)]; exact ⟨i + 1, by omega, by omega, step hl, rfl⟩)
                        | (rw [wrap_i64 (by omega) (by omega)]; refine later_intro ⟨i + 1, by omega, rfl, by omega, step hl, ?_, ?_, ?_, ?_⟩ <;> (try simp only [go_sem, t0, t3, t22, t23]) <;> rfl)
                    · simp -dsimp only [↓reduceIte, go_sem, t0, t3, t22, t23, hp, hq, hr, hs, ht, hu, hv]
                      simp only [Bool.true_and, Bool.false_and, Bool.or_true, Bool.true_or, Bool.or_false, Bool.false_or, Bool.and_true, Bool.and_false, Bool.or_self, Bool.and_self] at hl
                      first
                      | (rw [wrap_i64 (by omega) (by omega)]; exact ⟨i + 1, by omega, by omega, step hl, rfl⟩)
                      | (rw [wrap_i64 (by omega) (by omega)]; refine later_intro ⟨i + 1, by omega, rfl, by omega, step hl, ?_, ?_, ?_, ?_⟩ <;> (try simp only [go_sem, t0, t3, t22, t23]) <;> rfl)
                · simp -dsimp only [↓reduceIte, go_sem, t0, t3, t22, t23, hp, hq, hr, hs, ht, hu, hv]
                  simp only [Bool.true_and, Bool.false_and, Bool.or_true, Bool.true_or, Bool.or_false, Bool.false_or, Bool.and_true, Bool.and_false, Bool.or_self, Bool.and_self] at hl
                  first
                  | (rw [wrap_i64 (by omega) (by omega)]; exact ⟨i + 1, by omega, by omega, step hl, rfl⟩)
                  | (rw [wrap_i64 (by omega) (by omega)]; refine later_intro ⟨i + 1, by omega, rfl, by omega, step hl, ?_, ?_, ?_, ?_⟩ <;> (try simp only [go_sem, t0, t3, t22, t23]) <;> rfl)
            · have hb : i = s.length := by simp at hb; omega
              have ok : s ≠ [] ∧ s.length ≤ 12 ∧ s ≠ [46] ∧ s ≠ [46, 46] ∧ ∀ b ∈ s, letterB b = true := ⟨h1, h2, h3, h4, fun b hb2 => by
                obtain ⟨j, hj⟩ := List.mem_iff_getElem?.1 hb2
                exact hall j b (by have := (List.getElem?_eq_some_iff.1 hj).1; omega) hj⟩
              rw [nameB, decide_eq_true ok] at hK
              simp -dsimp only [↓reduceIte, go_sem, t0, t3, t22, t23]
              exact hK
      · have h3 : s = [46] := by simpa using h3
        simp -dsimp only [↓reduceIte, go_sem]
        exact bad (fun h => h.2.2.1 h3)
    · have h2 : ¬ s.length ≤ 12 := by simp at h2; omega
      simp -dsimp only [↓reduceIte, go_sem]
      exact bad (fun h => h2 h.2.1)
  · have h1 : s = [] := by simpa using h1
    simp -dsimp only [↓reduceIte, go_sem]
    exact bad (fun h => h.1 h1)
end Go.Aff.L21

namespace Go.Aff.L21
open Go.Proofs Go.Aff Go.Aff.L01 Classical
set_option maxRecDepth 20000
attribute [local go_sem] push_app app_app length_app cellAt_app cellAt_app0 set_app set_app0 objs_app objs_app0 List.cons_append List.nil_append List.length_cons List.length_nil List.getElem?_cons_zero List.getElem?_cons_succ List.set_cons_zero List.set_cons_succ
attribute [-go_sem] cellAt_new
attribute [local go_sem] Try.underlying9 fits29 Try.underlying43 fits44 Try.underlying50 p46_0 p46_1 p46_2 p46_3 p46_4 p46_5 Try.underlying84
attribute [local go_sem] fits3 fits9

attribute [local go_sem ↓] blockQ_exit2
end Go.Aff.L21

namespace Go.Aff.L21
open Go.Proofs Go.Aff Go.Aff.L01 Classical
set_option maxRecDepth 20000
attribute [local go_sem] push_app app_app length_app cellAt_app cellAt_app0 set_app set_app0 objs_app objs_app0 List.cons_append List.nil_append List.length_cons List.length_nil List.getElem?_cons_zero List.getElem?_cons_succ List.set_cons_zero List.set_cons_succ
attribute [-go_sem] cellAt_new
attribute [local go_sem] Try.underlying9 fits29 Try.underlying43 fits44 Try.underlying50 p46_0 p46_1 p46_2 p46_3 p46_4 p46_5 Try.underlying84
attribute [local go_sem] fits3 fits9

attribute [local go_sem ↓] blockQ_exit2
structure TLeaf where
  x : Leaf
  t1 : Tk
  t2 : Tk
  t3 : Tk
def leafV (y : TLeaf) : AV := .agg [.int .i64 y.x.num, .int .i64 y.x.kind, .int .i64 y.x.size, .slice y.t1 (y.x.blocks.map (AV.int .i64)), .slice y.t2 (y.x.names.map AV.str), .slice y.t3 (y.x.nodes.map (AV.int .i64))]

theorem right_c {y : TLeaf} {σ : AST} {K : AV → AST → Prop} (hK : K (.bool (decide y.x.Right)) σ) : TCalls Try.prog 112 [leafV y] σ K := by
  refine TCalls.drop ?_
  obtain ⟨x, q1, q2, q3⟩ := y
  unfold leafV
  dsimp only at hK ⊢
  refine tcalls_walk Try.f112 _ [.tmp 2] Try.func112 rfl rfl rfl mixed (Nat.le_of_ble_eq_true rfl) rfl fun hlen => ?_
  have bad : ∀ s, Ext σ s → ¬ x.Right → Ext σ s ∧ (AV.bool false).noRef = true ∧ K (AV.bool false).strip σ := fun s hx h => by
    rw [decide_eq_false h] at hK; exact ⟨hx, rfl, hK⟩
  simp -dsimp only [↓reduceIte, go_sem]
  refine guardV_split (fun h1 => ?_) (fun h1 => ?_) <;> (try rw [h1])
  · have h1 : 1 ≤ x.num := by simp at h1; omega
    simp -dsimp only [↓reduceIte, go_sem]
    refine boolW_split (fun h2 => ?_) (fun h2 => ?_)
    · have h2 : ¬ x.num ≤ 32 := by simp at h2; omega
      simp -dsimp only [↓reduceIte, go_sem]
      exact bad _ (Ext.app _ _) (fun h => h2 h.2.1)
    · have h2 : x.num ≤ 32 := by simp at h2; omega
      simp -dsimp only [↓reduceIte, go_sem]
      refine boolW_split (fun h3 => ?_) (fun h3 => ?_)
      · have h3 : x.kind = 2 := by simpa using h3
        have hR : x.Right ↔ x.File := ⟨fun h => by rcases h.2.2 with h | h; exact h.2; have := h.1; omega, fun h => ⟨h1, h2, .inl ⟨h3, h⟩⟩⟩
        simp -dsimp only [↓reduceIte, go_sem]
        refine arr_intro fun _ => ?_
        simp only [List.length_map]
        simp -dsimp only [↓reduceIte, go_sem]
        have hbl : x.blocks.length ≤ 9223372036854775807 := by
          have := ‹(x.blocks.map (AV.int .i64)).length ≤ maxL›
          simpa [maxL] using this
        generalize hV : AV.agg [.int .i64 x.num, .int .i64 x.kind, .int .i64 x.size, .slice q1 (x.blocks.map (AV.int .i64)), .slice q2 (x.names.map AV.str), .slice q3 (x.nodes.map (AV.int .i64))] = V
        refine awp_rounds (fun (i : Nat) τ s' => s' = σ.app [.cells V] ∧ i ≤ x.blocks.length ∧ (∀ j c, j < i → x.blocks[j]? = some c → 0 ≤ c ∧ c ≤ 1099511627776) ∧ τ 1 = .ptr (some (σ.objs.length, [])) ∧ τ 22 = .slice q1 (x.blocks.map (AV.int .i64)) ∧ τ 23 = .int .i64 x.blocks.length ∧ τ 24 = .int .i64 i) (fun i => x.blocks.length - i) 0 ?_ ?_
        · refine ⟨rfl, by omega, fun j c h => by omega, ?_, ?_, ?_, ?_⟩ <;> (try simp only [go_sem]) <;> rfl
        · rintro i τ s' ⟨rfl, hi, hall, u1, u22, u23, u24⟩
          subst hV
          simp -dsimp only [↓reduceIte, go_sem, u1, u22, u23, u24]
          refine boolW_split (fun hb => ?_) (fun hb => ?_)
          · have hb : i < x.blocks.length := by simp at hb; omega
            obtain ⟨n, hn⟩ := get_lt hb
            have hmem : n ∈ x.blocks := List.mem_iff_getElem?.2 ⟨i, hn⟩
            simp -dsimp only [↓reduceIte, go_sem, u1, u22, u23, u24]
            refine nth_get hn ?_
            simp -dsimp only [↓reduceIte, go_sem, u1, u22, u23, u24]
            refine guardV_split (fun c1 => ?_) (fun c1 => ?_) <;> (try rw [c1])
            · have c1 : 0 ≤ n := by simp at c1; omega
              simp -dsimp only [↓reduceIte, go_sem, u1, u22, u23, u24]
              refine boolW_split (fun c2 => ?_) (fun c2 => ?_)
              · have c2 : ¬ n ≤ 1099511627776 := by simp at c2; omega
                simp -dsimp only [↓reduceIte, go_sem, u1, u22, u23, u24]
                exact bad _ (Ext.app _ _) (fun h => c2 ((hR.1 h).1 n hmem).2)
              · have c2 : n ≤ 1099511627776 := by simp at c2; omega
                simp -dsimp only [↓reduceIte, go_sem, u1, u22, u23, u24]
                rw [wrap_i64 (by omega) (by omega)]
                refine later_intro ⟨i + 1, by omega, rfl, by omega, ?_, ?_, ?_, ?_, ?_⟩ <;> (try simp only [go_sem, u1, u22, u23, u24]) <;> (try rfl)
                intro j c hj hc
                by_cases hji : j < i
                · exact hall j c hji hc
                · obtain rfl : j = i := by omega
                  rw [hn] at hc; cases hc; exact ⟨c1, c2⟩
            · have c1 : ¬ 0 ≤ n := by simp at c1; omega
              simp -dsimp only [↓reduceIte, go_sem, u1, u22, u23, u24]
              exact bad _ (Ext.app _ _) (fun h => c1 ((hR.1 h).1 n hmem).1)
          · have hb : i = x.blocks.length := by simp at hb; omega
            have ha : AllIn 0 1099511627776 x.blocks := fun n hn => by
              obtain ⟨j, hj⟩ := List.mem_iff_getElem?.1 hn
              exact hall j n (by have := (List.getElem?_eq_some_iff.1 hj).1; omega) hj
            simp -dsimp only [↓reduceIte, go_sem, u1, u22, u23, u24]
            refine awp_drawS (id := 11) [0, 1, 2, 3, 4, 5, 6, 7, 8, 9, 10, 11, 12, 13, 14, 15, 16, 17, 18, 19, 20, 21, 22, 23, 24, 25, 26, 27] (by kernel_rfl) ?_
            simp -dsimp only [↓reduceIte, go_sem, u1, u22, u23, u24]
            refine guardV_split (fun c1 => ?_) (fun c1 => ?_) <;> (try rw [c1])
            · have c1 : 0 ≤ x.size := by simp at c1; omega
              simp -dsimp only [↓reduceIte, go_sem, u1, u22, u23, u24]
              refine guardV_split (fun c2 => ?_) (fun c2 => ?_) <;> (try rw [c2])
              · have c2 : x.size ≤ 512 := by simp at c2; omega
                obtain ⟨sz, hsz⟩ : ∃ sz : Nat, x.size = sz := ⟨x.size.toNat, by omega⟩
                simp -dsimp only [↓reduceIte, go_sem, u1, u22, u23, u24]
                refine arr_intro fun _ => ?_
                simp only [List.length_map]
                rw [hsz]
                simp -dsimp only [↓reduceIte, go_sem, u1, u22, u23, u24]
                refine many_c (by omega) ?_
                simp -dsimp only [↓reduceIte, go_sem, u1, u22, u23, u24]
                refine guardV_split (fun c3 => ?_) (fun c3 => ?_) <;> (try rw [c3])
                · have c3 : x.blocks.length = (sz + 31) / 32 := by simp at c3; omega
                  simp -dsimp only [↓reduceIte, go_sem, u1, u22, u23, u24]
                  refine arr_intro fun _ => ?_
                  simp only [List.length_map]
                  simp -dsimp only [↓reduceIte, go_sem, u1, u22, u23, u24]
                  refine arr_intro fun _ => ?_
                  simp only [List.length_map]
                  simp -dsimp only [↓reduceIte, go_sem, u1, u22, u23, u24]
                  have hnl : x.names.length ≤ 9223372036854775807 := by
                    have := ‹(x.names.map AV.str).length ≤ maxL›
                    simpa [maxL] using this
                  have hdl : x.nodes.length ≤ 9223372036854775807 := by
                    have := ‹(x.nodes.map (AV.int .i64)).length ≤ maxL›
                    simpa [maxL] using this
                  refine ⟨Ext.app _ _, rfl, ?_⟩
                  simp only [AV.strip]
                  have e : decide x.Right = (IntKind.i64.wrap ((x.names.length : Int) + (x.nodes.length : Int)) == 0) := by
                    rw [Bool.eq_iff_iff]
                    simp only [decide_eq_true_eq, beq_iff_eq]
                    rw [hR, IntKind.wrap_i64]
                    constructor
                    · intro h
                      rw [h.2.2.2.2.1, h.2.2.2.2.2]; rfl
                    · intro h
                      have h5 : x.names.length = 0 ∧ x.nodes.length = 0 := by omega
                      exact ⟨ha, c1, c2, by omega, List.length_eq_zero_iff.1 h5.1, List.length_eq_zero_iff.1 h5.2⟩
                  rw [e] at hK
                  exact hK
                · have c3 : x.blocks.length ≠ (sz + 31) / 32 := by simp at c3; omega
                  simp -dsimp only [↓reduceIte, go_sem, u1, u22, u23, u24]
                  exact bad _ (Ext.app _ _) (fun h => c3 (by have := (hR.1 h).2.2.2.1; omega))
              · have c2 : ¬ x.size ≤ 512 := by simp at c2; omega
                simp -dsimp only [↓reduceIte, go_sem, u1, u22, u23, u24]
                exact bad _ (Ext.app _ _) (fun h => c2 (hR.1 h).2.2.1)
            · have c1 : ¬ 0 ≤ x.size := by simp at c1; omega
              simp -dsimp only [↓reduceIte, go_sem, u1, u22, u23, u24]
              exact bad _ (Ext.app _ _) (fun h => c1 (hR.1 h).2.1)
      · have h3 : x.kind ≠ 2 := by simpa using h3
        simp -dsimp only [↓reduceIte, go_sem]
        refine boolW_split (fun h4 => ?_) (fun h4 => ?_)
        · have h4 : x.kind = 1 := by simpa using h4
          have hR : x.Right ↔ x.Dir := ⟨fun h => by rcases h.2.2 with h | h; (have := h.1; omega); exact h.2, fun h => ⟨h1, h2, .inr ⟨h4, h⟩⟩⟩
          simp -dsimp only [↓reduceIte, go_sem]
          refine arr_intro fun _ => ?_
          simp only [List.length_map]
          simp -dsimp only [↓reduceIte, go_sem]
          have hnl : x.names.length ≤ 9223372036854775807 := by
            have := ‹(x.names.map AV.str).length ≤ maxL›
            simpa [maxL] using this
          have badn : ∀ s (i : Nat) t, Ext σ s → x.names[i]? = some t → ¬ (nameB t = true ∧ ∀ t', 0 < i → x.names[i - 1]? = some t' → leqS t t' = false) → Ext σ s ∧ (AV.bool false).noRef = true ∧ K (AV.bool false).strip σ := fun s i t hx ht h => bad s hx (fun hr => h ((hR.1 hr).1 i t ht))
          generalize hV : AV.agg [.int .i64 x.num, .int .i64 x.kind, .int .i64 x.size, .slice q1 (x.blocks.map (AV.int .i64)), .slice q2 (x.names.map AV.str), .slice q3 (x.nodes.map (AV.int .i64))] = V
          refine awp_rounds (fun (i : Nat) τ s' => s' = σ.app [.cells V] ∧ i ≤ x.names.length ∧ (∀ (j : Nat) t, j < i → x.names[j]? = some t → nameB t = true ∧ ∀ t', 0 < j → x.names[j - 1]? = some t' → leqS t t' = false) ∧ τ 1 = .ptr (some (σ.objs.length, [])) ∧ τ 65 = .slice q2 (x.names.map AV.str) ∧ τ 66 = .int .i64 x.names.length ∧ τ 67 = .int .i64 i) (fun i => x.names.length - i) 0 ?_ ?_
          · refine ⟨rfl, by omega, fun j c h => by omega, ?_, ?_, ?_, ?_⟩ <;> (try simp only [go_sem]) <;> rfl
          · rintro i τ s' ⟨rfl, hi, hall, u1, u65, u66, u67⟩
            subst hV
            simp -dsimp only [↓reduceIte, go_sem, u1, u65, u66, u67]
            refine boolW_split (fun hb => ?_) (fun hb => ?_)
            · have hb : i < x.names.length := by simp at hb; omega
              obtain ⟨t, ht⟩ := get_lt hb
              have step : (nameB t = true ∧ ∀ t', 0 < i → x.names[i - 1]? = some t' → leqS t t' = false) → ∀ (j : Nat) t, j < i + 1 → x.names[j]? = some t → nameB t = true ∧ ∀ t', 0 < j → x.names[j - 1]? = some t' → leqS t t' = false := fun h j t2 hj ht2 => by
                by_cases hji : j < i
                · exact hall j t2 hji ht2
                · obtain rfl : j = i := by omega
                  rw [ht] at ht2; cases ht2; exact h
              simp -dsimp only [↓reduceIte, go_sem, u1, u65, u66, u67]
              refine nth_get ht ?_
              simp -dsimp only [↓reduceIte, go_sem, u1, u65, u66, u67]
              refine name_c ?_
              simp -dsimp only [↓reduceIte, go_sem, u1, u65, u66, u67]
              refine guardV_split (fun c1 => ?_) (fun c1 => ?_) <;> (try rw [c1])
              · have c1 : nameB t = true := by simpa using c1
                simp -dsimp only [↓reduceIte, go_sem, u1, u65, u66, u67]
                refine guardV_split (fun c2 => ?_) (fun c2 => ?_) <;> (try rw [c2])
                · have c2 : 0 < i := by simp at c2; omega
                  obtain ⟨t', ht'⟩ := get_lt (l := x.names) (i := i - 1) (by omega)
                  simp -dsimp only [↓reduceIte, go_sem, u1, u65, u66, u67]
                  rw [wrap_i64 (n := (i : Int) - 1) (by omega) (by omega), show (i : Int) - 1 = ((i - 1 : Nat) : Int) by omega]
                  refine nth_get ht' ?_
                  simp -dsimp only [↓reduceIte, go_sem, u1, u65, u66, u67]
                  refine boolW_split (fun c3 => ?_) (fun c3 => ?_)
                  · have c3 : leqS t t' = true := c3
                    simp -dsimp only [↓reduceIte, go_sem, u1, u65, u66, u67]
                    exact badn _ i t (Ext.app _ _) ht (fun h => by have := h.2 t' c2 ht'; rw [c3] at this; cases this)
                  · have c3 : leqS t t' = false := c3
                    simp -dsimp only [↓reduceIte, go_sem, u1, u65, u66, u67]
                    rw [wrap_i64 (by omega) (by omega)]
                    refine later_intro ⟨i + 1, by omega, rfl, by omega, step ⟨c1, fun t2 _ h2 => by rw [ht'] at h2; cases h2; exact c3⟩, ?_, ?_, ?_, ?_⟩ <;> (try simp only [go_sem, u1, u65, u66, u67]) <;> rfl
                · have c2 : i = 0 := by simp at c2; omega
                  simp -dsimp only [↓reduceIte, go_sem, u1, u65, u66, u67]
                  rw [wrap_i64 (by omega) (by omega)]
                  refine later_intro ⟨i + 1, by omega, rfl, by omega, step ⟨c1, fun t2 h _ => by omega⟩, ?_, ?_, ?_, ?_⟩ <;> (try simp only [go_sem, u1, u65, u66, u67]) <;> rfl
              · have c1 : nameB t = false := by simpa using c1
                simp -dsimp only [↓reduceIte, go_sem, u1, u65, u66, u67]
                exact badn _ i t (Ext.app _ _) ht (fun h => by have := h.1; rw [c1] at this; cases this)
            · have hb : i = x.names.length := by simp at hb; omega
              have hnames : NamesOk x.names := fun j t hj => hall j t (by have := (List.getElem?_eq_some_iff.1 hj).1; omega) hj
              simp -dsimp only [↓reduceIte, go_sem, u1, u65, u66, u67]
              refine arr_intro fun _ => ?_
              simp only [List.length_map]
              simp -dsimp only [↓reduceIte, go_sem, u1, u65, u66, u67]
              have hdl : x.nodes.length ≤ 9223372036854775807 := by
                have := ‹(x.nodes.map (AV.int .i64)).length ≤ maxL›
                simpa [maxL] using this
              generalize hV : AV.agg [.int .i64 x.num, .int .i64 x.kind, .int .i64 x.size, .slice q1 (x.blocks.map (AV.int .i64)), .slice q2 (x.names.map AV.str), .slice q3 (x.nodes.map (AV.int .i64))] = V
              refine awp_rounds (fun (i : Nat) τ s' => s' = σ.app [.cells V] ∧ i ≤ x.nodes.length ∧ (∀ j c, j < i → x.nodes[j]? = some c → 1 ≤ c ∧ c ≤ 32) ∧ τ 1 = .ptr (some (σ.objs.length, [])) ∧ τ 91 = .slice q3 (x.nodes.map (AV.int .i64)) ∧ τ 92 = .int .i64 x.nodes.length ∧ τ 93 = .int .i64 i) (fun i => x.nodes.length - i) 0 ?_ ?_
              · refine ⟨rfl, by omega, fun j c h => by omega, ?_, ?_, ?_, ?_⟩ <;> (try simp only [go_sem, u1]) <;> rfl
              · rintro i' τ' s'' ⟨rfl, hi', hall', v1, v91, v92, v93⟩
                subst hV
                simp -dsimp only [↓reduceIte, go_sem, v1, v91, v92, v93]
                refine boolW_split (fun hb2 => ?_) (fun hb2 => ?_)
                · have hb2 : i' < x.nodes.length := by simp at hb2; omega
                  obtain ⟨n, hn⟩ := get_lt hb2
                  have hmem : n ∈ x.nodes := List.mem_iff_getElem?.2 ⟨i', hn⟩
                  simp -dsimp only [↓reduceIte, go_sem, v1, v91, v92, v93]
                  refine nth_get hn ?_
                  simp -dsimp only [↓reduceIte, go_sem, v1, v91, v92, v93]
                  refine guardV_split (fun c1 => ?_) (fun c1 => ?_) <;> (try rw [c1])
                  · have c1 : 1 ≤ n := by simp at c1; omega
                    simp -dsimp only [↓reduceIte, go_sem, v1, v91, v92, v93]
                    refine boolW_split (fun c2 => ?_) (fun c2 => ?_)
                    · have c2 : ¬ n ≤ 32 := by simp at c2; omega
                      simp -dsimp only [↓reduceIte, go_sem, v1, v91, v92, v93]
                      exact bad _ (Ext.app _ _) (fun h => c2 ((hR.1 h).2.1 n hmem).2)
                    · have c2 : n ≤ 32 := by simp at c2; omega
                      simp -dsimp only [↓reduceIte, go_sem, v1, v91, v92, v93]
                      rw [wrap_i64 (by omega) (by omega)]
                      refine later_intro ⟨i' + 1, by omega, rfl, by omega, ?_, ?_, ?_, ?_, ?_⟩ <;> (try simp only [go_sem, v1, v91, v92, v93]) <;> (try rfl)
                      intro j c hj hc
                      by_cases hji : j < i'
                      · exact hall' j c hji hc
                      · obtain rfl : j = i' := by omega
                        rw [hn] at hc; cases hc; exact ⟨c1, c2⟩
                  · have c1 : ¬ 1 ≤ n := by simp at c1; omega
                    simp -dsimp only [↓reduceIte, go_sem, v1, v91, v92, v93]
                    exact bad _ (Ext.app _ _) (fun h => c1 ((hR.1 h).2.1 n hmem).1)
                · have hb2 : i' = x.nodes.length := by simp at hb2; omega
                  have ha : AllIn 1 32 x.nodes := fun n hn => by
                    obtain ⟨j, hj⟩ := List.mem_iff_getElem?.1 hn
                    exact hall' j n (by have := (List.getElem?_eq_some_iff.1 hj).1; omega) hj
                  simp -dsimp only [↓reduceIte, go_sem, v1, v91, v92, v93]
                  refine guardV_split (fun c1 => ?_) (fun c1 => ?_) <;> (try rw [c1])
                  · have c1 : x.size = 0 := by simpa using c1
                    simp -dsimp only [↓reduceIte, go_sem, v1, v91, v92, v93]
                    refine arr_intro fun _ => ?_
                    simp only [List.length_map]
                    simp -dsimp only [↓reduceIte, go_sem, v1, v91, v92, v93]
                    refine guardV_split (fun c2 => ?_) (fun c2 => ?_) <;> (try rw [c2])
                    · have c2 : x.blocks = [] := by
                        have : x.blocks.length = 0 := by simp at c2; simp; omega
                        exact List.length_eq_zero_iff.1 this
                      simp -dsimp only [↓reduceIte, go_sem, v1, v91, v92, v93]
                      refine arr_intro fun _ => ?_
                      simp only [List.length_map]
                      simp -dsimp only [↓reduceIte, go_sem, v1, v91, v92, v93]
                      refine arr_intro fun _ => ?_
                      simp only [List.length_map]
                      simp -dsimp only [↓reduceIte, go_sem, v1, v91, v92, v93]
                      refine ⟨Ext.app _ _, rfl, ?_⟩
                      simp only [AV.strip]
                      have e : decide x.Right = ((x.names.length : Int) == (x.nodes.length : Int)) := by
                        rw [Bool.eq_iff_iff]
                        simp only [decide_eq_true_eq, beq_iff_eq]
                        rw [hR]
                        constructor
                        · intro h; rw [h.2.2.2.2]
                        · intro h; exact ⟨hnames, ha, c1, c2, by omega⟩
                      rw [e] at hK
                      exact hK
                    · have c2 : x.blocks ≠ [] := by rintro h; rw [h] at c2; simp at c2
                      simp -dsimp only [↓reduceIte, go_sem, v1, v91, v92, v93]
                      exact bad _ (Ext.app _ _) (fun h => c2 (hR.1 h).2.2.2.1)
                  · have c1 : x.size ≠ 0 := by simpa using c1
                    simp -dsimp only [↓reduceIte, go_sem, v1, v91, v92, v93]
                    exact bad _ (Ext.app _ _) (fun h => c1 (hR.1 h).2.2.1)
        · have h4 : x.kind ≠ 1 := by simpa using h4
          simp -dsimp only [↓reduceIte, go_sem]
          exact bad _ (Ext.app _ _) (fun h => by rcases h.2.2 with h | h; exact h3 h.1; exact h4 h.1)
  · have h1 : ¬ 1 ≤ x.num := by simp at h1; omega
    simp -dsimp only [↓reduceIte, go_sem]
    exact bad _ (Ext.app _ _) (fun h => h1 h.1)
end Go.Aff.L21

namespace Go.Aff.L21
open Go.Proofs Go.Aff Go.Aff.L01 Classical
set_option maxRecDepth 20000
attribute [local go_sem] push_app app_app length_app cellAt_app cellAt_app0 set_app set_app0 objs_app objs_app0 List.cons_append List.nil_append List.length_cons List.length_nil List.getElem?_cons_zero List.getElem?_cons_succ List.set_cons_zero List.set_cons_succ
attribute [-go_sem] cellAt_new
attribute [local go_sem] Try.underlying9 fits29 Try.underlying43 fits44 Try.underlying50 p46_0 p46_1 p46_2 p46_3 p46_4 p46_5 Try.underlying84
attribute [local go_sem] fits3 fits9

attribute [local go_sem ↓] blockQ_exit2
end Go.Aff.L21

namespace Go.Aff.L21
open Go.Proofs Go.Aff Go.Aff.L01 Classical
set_option maxRecDepth 20000
attribute [local go_sem] push_app app_app length_app cellAt_app cellAt_app0 set_app set_app0 objs_app objs_app0 List.cons_append List.nil_append List.length_cons List.length_nil List.getElem?_cons_zero List.getElem?_cons_succ List.set_cons_zero List.set_cons_succ
attribute [-go_sem] cellAt_new
attribute [local go_sem] Try.underlying22 fits46 p46_0 Try.underlying84
attribute [local go_sem] fits3
attribute [local go_sem ↓] blockQ_exit2

theorem size_leaf {y : TLeaf} : (leafV y).size = 6 := by simp [leafV, AV.size, AV.sizes]
theorem agg_leaf {y : TLeaf} : (leafV y).isAgg = true := rfl
theorem tableAt {l : List TLeaf} {i : Nat} {y : TLeaf} (h : l[i]? = some y) : (l.map (·.x))[i]? = some y.x := by simp [h]
theorem get_pred {α : Type} {l : List α} {i : Nat} {y : α} (h : l[i]? = some y) (h0 : 0 < i) : l[i - 1]? = some (l[i - 1]'(by have := (List.getElem?_eq_some_iff.1 h).1; omega)) := List.getElem?_eq_getElem _
theorem nth_pred {α : Type} {l : List α} {i : Nat} {y : α} {F : α → Prop} (h : l[i]? = some y) (h0 : 0 < i) (hF : F (l[i - 1]'(by have := (List.getElem?_eq_some_iff.1 h).1; omega))) : nthW l ((i : Int) - 1) (@LamA _ ⟨F⟩) := by
  rw [show (i : Int) - 1 = ((i - 1 : Nat) : Int) by omega]; exact nth_get (get_pred h h0) hF
def TableTo (l : List TLeaf) (i : Nat) : Prop := ∀ (j : Nat) y, j < i → l[j]? = some y → y.x.Right ∧ ∀ z, 0 < j → l[j - 1]? = some z → z.x.num < y.x.num
theorem tableTo_all {l : List TLeaf} : TableTo l l.length ↔ Table (l.map (·.x)) := by
  constructor
  · intro h i x hx
    simp only [List.getElem?_map, Option.map_eq_some_iff] at hx
    obtain ⟨y, hy, rfl⟩ := hx
    refine ⟨(h i y (List.getElem?_eq_some_iff.1 hy).1 hy).1, fun z h0 hz => ?_⟩
    simp only [List.getElem?_map, Option.map_eq_some_iff] at hz
    obtain ⟨z, hz, rfl⟩ := hz
    exact (h i y (List.getElem?_eq_some_iff.1 hy).1 hy).2 z h0 hz
  · intro h j y _ hy
    exact ⟨(h j y.x (tableAt hy)).1, fun z h0 hz => (h j y.x (tableAt hy)).2 z.x h0 (tableAt hz)⟩
theorem tableTo_succ {l : List TLeaf} {i : Nat} {y : TLeaf} (hi : TableTo l i) (hy : l[i]? = some y) (h1 : y.x.Right) (h2 : ∀ z, 0 < i → l[i - 1]? = some z → z.x.num < y.x.num) : TableTo l (i + 1) := by
  intro j z hj hz
  by_cases h : j < i
  · exact hi j z h hz
  · obtain rfl : j = i := by omega
    rw [hy] at hz; cases hz; exact ⟨h1, h2⟩

theorem zt46 : ZeroOf Try.prog 84 (.agg [.int .i64 0, .int .i64 0, .int .i64 0, .slice .full [], .slice .full [], .slice .full []]) = True := by simp [zeroOf46]
theorem known_leaf {y : TLeaf} : (leafV y).known = true := rfl
attribute [local go_sem] zt46 zero46 agg_leaf known_leaf
theorem table_c {l : List TLeaf} {tk : Tk} {σ : AST} {K : AV → AST → Prop} (hK : K (.bool (decide (Table (l.map (·.x))))) σ) : TCalls Try.prog 99 [.slice tk (l.map leafV)] σ K := by
  refine TCalls.drop ?_
  refine tcalls_walk Try.f99 _ [.tmp 2] Try.func99 rfl rfl rfl mixed (Nat.le_of_ble_eq_true rfl) rfl fun hlen => ?_
  have bad : ∀ s, Ext σ s → ¬ Table (l.map (·.x)) → Ext σ s ∧ (AV.bool false).noRef = true ∧ K (AV.bool false).strip σ := fun s hx h => by
    rw [decide_eq_false h] at hK; exact ⟨hx, rfl, hK⟩
  simp -dsimp only [↓reduceIte, go_sem]
  refine arr_intro fun _ => ?_
  have hll : l.length ≤ 9223372036854775807 := by simpa [maxL] using ‹(l.map leafV).length ≤ maxL›
  simp only [List.length_map]
  simp -dsimp only [↓reduceIte, go_sem]
  refine awp_rounds (fun (i : Nat) τ s => Ext σ s ∧ i ≤ l.length ∧ TableTo l i ∧ τ 0 = .slice tk (l.map leafV) ∧ τ 5 = .slice tk (l.map leafV) ∧ τ 6 = .int .i64 l.length ∧ τ 7 = .int .i64 i) (fun i => l.length - i) 0 ?_ ?_
  · refine ⟨Ext.refl _, by omega, fun j y h => by omega, ?_, ?_, ?_, ?_⟩ <;> (try simp only [go_sem]) <;> rfl
  · rintro i τ s ⟨hx, hi, hall, t0, t5, t6, t7⟩
    simp -dsimp only [↓reduceIte, go_sem, t0, t5, t6, t7]
    refine boolW_split (fun hb => ?_) (fun hb => ?_)
    · have hb : i < l.length := by simp at hb; omega
      obtain ⟨y, hy⟩ := get_lt hb
      simp -dsimp only [↓reduceIte, go_sem, t0, t5, t6, t7]
      refine nth_get hy ?_
      repeat' (first | (simp -dsimp only [↓reduceIte, go_sem, t0, t5, t6, t7, leafV]) | (refine arr_intro fun _ => ?_) | (refine later_intro ⟨keeps_nil, ?_⟩) | (refine later_intro ⟨keeps_refl, ?_⟩) | (with_reducible refine keeps_go ?_ ?_; focus (first | (simp [keeps_cons, keeps_none, objs_app, objs_app0]; done) | (simp only [keeps_cons, keeps_none, objs_app0, objs_app, and_true]; first | rfl | exact ⟨rfl, rfl⟩ | exact ⟨rfl, rfl, rfl⟩))) | (with_reducible refine (And.intro (a := keeps _ _ _) ?_ ?_); focus (first | (simp [keeps_cons, keeps_none, objs_app, objs_app0]; done) | (simp only [keeps_cons, keeps_none, objs_app0, objs_app, and_true]; first | rfl | exact ⟨rfl, rfl⟩ | exact ⟨rfl, rfl, rfl⟩))) | (refine both_ways ?_ ?_) | (rw [wrap_i64 (by omega) (by omega)]) | (refine guardV_split (fun h => ?_) (fun h => ?_) <;> (try rw [h]) <;> (try simp at h) <;> (try (exfalso; omega))) | (with_reducible refine awp_drawS (id := 4) [0, 1, 2, 3, 4, 5, 6, 7, 8, 9, 10, 11, 12, 13, 14, 15, 16, 17] (by kernel_rfl) ?_) | (refine right_c ?_) | (refine nth_get hy ?_) | (refine nth_pred hy (by omega) ?_))
      · exact bad _ (hx.trans (Ext.app _ _)) fun ht => by have := (tableTo_all.2 ht i y hb hy).2 _ ‹_› (get_pred hy ‹_›); omega
      · refine later_intro ⟨i + 1, by omega, hx.trans (Ext.app _ _), by omega, tableTo_succ hall hy ‹_› (fun z h0 hz => by rw [get_pred hy h0] at hz; cases hz; omega), ?_, ?_, ?_, ?_⟩ <;> (try simp only [go_sem, t0, t5, t6, t7]) <;> rfl
      · refine later_intro ⟨i + 1, by omega, hx.trans (Ext.app _ _), by omega, tableTo_succ hall hy ‹_› (fun z h0 hz => by omega), ?_, ?_, ?_, ?_⟩ <;> (try simp only [go_sem, t0, t5, t6, t7]) <;> rfl
      · exact bad _ (hx.trans (Ext.app _ _)) fun ht => ‹¬ y.x.Right› (tableTo_all.2 ht i y hb hy).1
    · have hb : i = l.length := by simp at hb; omega
      repeat' (first | (simp -dsimp only [↓reduceIte, go_sem, t0, t5, t6, t7]) | (refine arr_intro fun _ => ?_) | (refine later_intro ⟨keeps_nil, ?_⟩) | (refine later_intro ⟨keeps_refl, ?_⟩) | (with_reducible refine keeps_go ?_ ?_; focus (first | (simp [keeps_cons, keeps_none, objs_app, objs_app0]; done) | (simp only [keeps_cons, keeps_none, objs_app0, objs_app, and_true]; first | rfl | exact ⟨rfl, rfl⟩ | exact ⟨rfl, rfl, rfl⟩))) | (with_reducible refine (And.intro (a := keeps _ _ _) ?_ ?_); focus (first | (simp [keeps_cons, keeps_none, objs_app, objs_app0]; done) | (simp only [keeps_cons, keeps_none, objs_app0, objs_app, and_true]; first | rfl | exact ⟨rfl, rfl⟩ | exact ⟨rfl, rfl, rfl⟩))) | (refine both_ways ?_ ?_) | (rw [wrap_i64 (by omega) (by omega)]) | (refine guardV_split (fun h => ?_) (fun h => ?_) <;> (try rw [h]) <;> (try simp at h) <;> (try (exfalso; omega))))
      rw [hb] at hall
      rw [decide_eq_true (tableTo_all.1 hall)] at hK
      exact ⟨hx, rfl, hK⟩
attribute [local go_sem ↓] blockQ_exit2
end Go.Aff.L21

namespace Go.Aff

variable {P : Program} {σ s : AST} {tk : Tk} {K : AV → AST → Prop}

structure Gr (σ s : AST) (tk : Tk) (n : Nat) (e : Nat := 1) : Prop where
  x : Ext σ s
  t : tkNew σ tk
  c : canApp s tk n e
theorem Gr.start {n e : Nat} : Gr σ σ .full n e := ⟨Ext.refl _, .inl rfl, trivial⟩
theorem Gr.start' {n e : Nat} (h : Ext σ s) : Gr σ s .full n e := ⟨h, .inl rfl, trivial⟩
theorem Gr.grow {n m e : Nat} (h : Gr σ s tk n e) : Gr σ (growS s tk m e) (growT s tk) m e := ⟨h.x.grow h.t, h.t.grow h.x, canApp_grow h.c⟩
theorem Gr.app {n e : Nat} {l : List AObj} (h : Gr σ s tk n e) : Gr σ (s.app l) tk n e := ⟨h.x.trans (Ext.app _ _), h.t, by rw [canApp_app]; exact h.c⟩
theorem Gr.set {σ s : AST} {tk : Tk} {n e i : Nat} {o : AObj} (h : Gr σ s tk n e) (hi : σ.objs.length ≤ i) : Gr σ (s.set i o) tk n e := ⟨h.x.set hi, h.t, by rw [canApp_set]; exact h.c⟩
theorem growS_objs {n e : Nat} : (growS σ tk n e).objs = σ.objs := by cases tk <;> rfl

/-! ### Parts put in, by rewriting -/
variable {KV : AV → Prop}
def fillE (P : Program) (t : TypeId) (ps : List AV) (u : Option AV) (i : Nat) (x : AV) (r : List (Nat × AV)) (K : AV → Prop) : Prop := match u with
  | some u => partIs P t ps i x ∧ u.shape = x.shape ∧ x.known = true ∧ fillW P t r (.agg (ps.set i x)) K
  | none => False
theorem fill_agg {t : TypeId} {i : Nat} {x : AV} {r : List (Nat × AV)} {ps : List AV} : fillW P t ((i, x) :: r) (.agg ps) KV = fillE P t ps ps[i]? i x r KV := by
  rw [fillW.eq_2]
  cases h : ps[i]? with
  | none => simp [fillE]
  | some u => simp [fillE]
theorem fillE_some {t : TypeId} {i : Nat} {x u : AV} {r : List (Nat × AV)} {ps : List AV} : fillE P t ps (some u) i x r KV = ((partIs P t ps i x ∧ u.shape = x.shape ∧ x.known = true) ∧ @Later ⟨fillW P t r (.agg (ps.set i x)) KV⟩) := by
  simp [fillE, Later, and_assoc]
theorem fill_nil' {t : TypeId} {v : AV} : fillW P t [] v KV = KV v := by cases v <;> rfl
attribute [go_sem] fill_agg fillE_some fill_nil'
end Go.Aff

