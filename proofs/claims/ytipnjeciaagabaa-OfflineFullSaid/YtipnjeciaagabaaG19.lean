import Derived.Test.YtipnjeciaagabaaG18

set_option linter.unusedSimpArgs false
set_option linter.unusedVariables false

/- Regions that draw their order and leave something behind: walked in one order. -/
namespace Go.Aff
set_option linter.unusedVariables false
set_option linter.unusedSimpArgs false

variable {P : Program} {σ σ' : AST} {ops : Array Oper} {τ : Env} {KE : Env → AST → Prop}

/-- The object that an operation reads. -/
def ptrO : AV → List Nat
  | .ptr (some (i, _)) => [i]
  | .arr i _ _ => [i]
  | _ => []
def reads (ρ : Operand → AV) : Op → List Nat
  | .load _ x => ptrO (ρ x)
  | .fieldAddr _ x _ => ptrO (ρ x)
  | .indexAddr _ x _ => ptrO (ρ x)
  | .convert _ _ x => ptrO (ρ x)
  | _ => []
def keeps (ks : List Nat) (σ σ' : AST) : Prop := ∀ k ∈ ks, σ'.objs[k]? = σ.objs[k]?

theorem opW_free {ρ : Operand → AV} {o : Oper} {p : AV → Prop} (he : effO P o = false) (hs : keeps (reads ρ o.op) σ σ') (h : opW P ρ o σ fun v _ => p v) : opW P ρ o σ' fun v _ => p v := by
  obtain ⟨dst, op, type, pos, after, guard⟩ := o
  cases op <;> simp only [effO] at he <;> simp only [opW] at h ⊢ <;> try exact h
  case convert s d x =>
    unfold convW at h ⊢
    split at h
    · exact h
    · rcases h with h | ⟨e, h1, h2, h3, h4⟩
      · exact .inl h
      · rw [h1] at he; simp at he
    · exact h
    · rename_i i p n ha
      rw [hs i (by simp [reads, ha, ptrO])]
      exact h
    · exact h
  case load t a =>
    unfold loadW at h ⊢
    split at h
    · rename_i i p ha
      rw [hs i (by simp [reads, ha, ptrO])]
      exact h
    · exact h
    · exact h.elim
  case fieldAddr t x i =>
    refine ⟨h.1, ?_⟩
    have h := h.2
    unfold fieldAddrW at h ⊢
    split at h
    · rename_i j p ha
      rw [hs j (by simp [reads, ha, ptrO])]
      exact h
    · exact h
    · exact h.elim
  case indexAddr t x i =>
    unfold indexAddrW at h ⊢
    split at h
    · split at h
      · exact h
      · rename_i j p ha
        rw [hs j (by simp [reads, ha, ptrO])]
        exact h
      · exact h
      · rename_i j p m ha
        rw [hs j (by simp [reads, ha, ptrO])]
        exact h
      · exact h.elim
    · exact h.elim
  case call c =>
    unfold callW at h ⊢
    split at h
    · rename_i hc; simp [hc] at he
    · exact h
    · rename_i hc; simp [hc] at he
    · exact h
    · exact h
    · rename_i hc; simp [hc] at he
    · rename_i hc; simp [hc] at he
    · rename_i hc; simp [hc] at he
    · rename_i hc; simp [hc] at he
    · exact h.elim
  all_goals (simp at he)

theorem step_same {o : Oper} {v : AV} (hl : ∀ t, lenOk (τ t)) (he : effO P o = false) (hs : keeps (reads (ev τ) o.op) σ σ') (h : stepW P ops o τ σ fun v' σ'' => v' = v ∧ σ'' = σ) :
    stepW P ops o τ σ' fun v' σ'' => v' = v ∧ σ'' = σ' := by
  have hlo : ∀ x, lenOk (ev τ x) := by
    intro x
    cases x with
    | tmp t => exact hl t
    | const c => simp only [ev]; exact lenOk_of (g := ⟨0, [], fun _ => none, []⟩) (w := default) (absV_rel _ _ c)
    | global _ => trivial
    | func f => trivial
  have key : opW P (ev τ) o σ (fun v' σ'' => v' = v ∧ σ'' = σ) → opW P (ev τ) o σ' (fun v' σ'' => v' = v ∧ σ'' = σ') := by
    intro h
    have h0 : opW P (ev τ) o σ (fun v' _ => v' = v) := opW_mono (fun _ _ h => h.1) h
    obtain ⟨u, hu, hk⟩ := op_det hlo he (opW_free he hs h0)
    subst hu
    exact hk _ ⟨rfl, rfl⟩
  unfold stepW at h ⊢
  split at h
  · exact key h
  · split at h
    · exact h.elim
    · split at h
      · exact ⟨fun e => key (h.1 e), fun e => ⟨(h.2 e).1, rfl⟩⟩
      · exact ⟨h.1, rfl⟩
      · exact h.elim

/-- A region in one order; with each operation whether it may leave something behind; ks: the objects that have been read. -/
def seqE (P : Program) (ops : Array Oper) : List (Nat × Bool) → List Nat → Env → AST → (Env → AST → Prop) → Prop
  | [], ks, τ, σ, K => K τ σ
  | (i, true) :: r, ks, τ, σ, K => match gop ops i with
    | none => False
    | some o => stepW P ops o τ σ fun v σ' => keeps ks σ σ' ∧ seqE P ops r ks (τ.putO o.dst v) σ' K
  | (i, false) :: r, ks, τ, σ, K => match gop ops i with
    | none => False
    | some o => stepW P ops o τ σ fun v σ' => σ' = σ ∧ seqE P ops r (reads (ev τ) o.op ++ ks) (τ.putO o.dst v) σ' K

def flagsOk (P : Program) (ops : Array Oper) (l : List (Nat × Bool)) : Bool := l.all fun x => match ops[x.1]? with
  | none => false
  | some o => effO P o == x.2

def pastOkE (P : Program) (ops : Array Oper) (ks : List Nat) (past : List (Nat × Env × AV)) (σ : AST) : Prop :=
  ∀ x ∈ past, ∀ o, ops[x.1]? = some o → (∀ t, lenOk (x.2.1 t)) ∧ effO P o = false ∧ (∀ k ∈ reads (ev x.2.1) o.op, k ∈ ks) ∧ stepW P ops o x.2.1 σ fun v' σ'' => v' = x.2.2 ∧ σ'' = σ

theorem seqE_awpD : ∀ (l : List (Nat × Bool)) (ks : List Nat) (past : List (Nat × Env × AV)) (τ : Env) (σ : AST), flagsOk P ops l = true → pastOkE P ops ks past σ → (∀ t, lenOk (τ t)) → seqE P ops l ks τ σ KE → awpD P ops (l.map (·.1)) past τ σ KE
  | [], ks, past, τ, σ, hf, hp, hlen, h => h
  | (i, true) :: r, ks, past, τ, σ, hf, hp, hlen, h => by
    simp only [seqE] at h
    split at h
    · exact h.elim
    · rename_i o hk
      have hk : ops[i]? = some o := hk
      simp only [flagsOk, List.all_cons, hk, Bool.and_eq_true, beq_iff_eq] at hf
      simp only [List.map_cons, awpD, hk, hf.1, if_true]
      refine stepW_mono (fun v σ' hh => ?_) h
      have hp' : pastOkE P ops ks past σ' := fun x hx o ho => by
        obtain ⟨h1, h2, h3, h4⟩ := hp x hx o ho
        exact ⟨h1, h2, h3, step_same h1 h2 (fun k hk => hh.1 k (h3 k hk)) h4⟩
      exact ⟨fun x hx _ o ho => (hp' x hx o ho).2.2.2, fun hlv => seqE_awpD r ks past _ _ hf.2 hp' hlv hh.2⟩
  | (i, false) :: r, ks, past, τ, σ, hf, hp, hlen, h => by
    simp only [seqE] at h
    split at h
    · exact h.elim
    · rename_i o hk
      have hk : ops[i]? = some o := hk
      simp only [flagsOk, List.all_cons, hk, Bool.and_eq_true, beq_iff_eq] at hf
      simp only [List.map_cons, awpD, hk, hf.1, Bool.false_eq_true, if_false]
      obtain ⟨v, hv, hkk⟩ := stepW_det hlen hf.1 h
      refine hkk _ fun hlv => seqE_awpD r _ _ _ _ hf.2 ?_ hlv hv.2
      intro x hx o' ho'
      rcases List.mem_cons.1 hx with rfl | hx
      · dsimp only at ho' ⊢
        rw [hk] at ho'; cases ho'
        exact ⟨hlen, hf.1, fun k hk => List.mem_append_left _ hk, hkk _ ⟨rfl, rfl⟩⟩
      · obtain ⟨h1, h2, h3, h4⟩ := hp x hx o' ho'
        exact ⟨h1, h2, fun k hk => List.mem_append_right _ (h3 k hk), h4⟩

theorem awp_drawE {id : Nat} {ops : Array Oper} {Q : Exit → Env → AST → Prop} (ord : List (Nat × Bool)) (ho : (ordOk P ops (ord.map (·.1)) && flagsOk P ops ord) = true) (h : seqE P ops ord [] τ σ (Q .normal)) : awp P (.region id ops true) Q τ σ := by
  rw [Bool.and_eq_true] at ho
  exact awp_draw _ ho.1 fun hlen => seqE_awpD ord [] [] τ σ ho.2 (fun x hx => by simp at hx) hlen h

/-! ### As rules -/
def seqEt (P : Program) (ops : Array Oper) (o : Option Oper) (r : List (Nat × Bool)) (ks : List Nat) (τ : Env) (σ : AST) (K : Env → AST → Prop) : Prop := match o with
  | none => False
  | some o => stepW P ops o τ σ fun v σ' => keeps ks σ σ' ∧ seqE P ops r ks (τ.putO o.dst v) σ' K
def seqEf (P : Program) (ops : Array Oper) (o : Option Oper) (r : List (Nat × Bool)) (ks : List Nat) (τ : Env) (σ : AST) (K : Env → AST → Prop) : Prop := match o with
  | none => False
  | some o => stepW P ops o τ σ fun v σ' => σ' = σ ∧ seqE P ops r (reads (ev τ) o.op ++ ks) (τ.putO o.dst v) σ' K
variable {ks : List Nat}
theorem seqE_nil : seqE P ops [] ks τ σ KE = KE τ σ := nr rfl
theorem seqE_t {i : Nat} {r : List (Nat × Bool)} : seqE P ops ((i, true) :: r) ks τ σ KE = seqEt P ops (gop ops i) r ks τ σ KE := by simp only [seqE, seqEt]
theorem seqE_f {i : Nat} {r : List (Nat × Bool)} : seqE P ops ((i, false) :: r) ks τ σ KE = seqEf P ops (gop ops i) r ks τ σ KE := by simp only [seqE, seqEf]
theorem seqEt_some {o : Oper} {r : List (Nat × Bool)} : seqEt P ops (some o) r ks τ σ KE = stepW P ops o τ σ (@Lam ⟨fun v σ' => @Later ⟨keeps ks σ σ' ∧ seqE P ops r ks (τ.putO o.dst v) σ' KE⟩⟩) := nr rfl
theorem seqEf_some {o : Oper} {r : List (Nat × Bool)} : seqEf P ops (some o) r ks τ σ KE = stepW P ops o τ σ (@Lam ⟨fun v σ' => σ' = σ ∧ @Later ⟨seqE P ops r (reads (ev τ) o.op ++ ks) (τ.putO o.dst v) σ' KE⟩⟩) := nr rfl
theorem reads_load {ρ : Operand → AV} {t : TypeId} {x : Operand} : reads ρ (.load t x) = ptrO (ρ x) := rfl
theorem reads_fieldAddr {ρ : Operand → AV} {t : TypeId} {x : Operand} {i : Nat} : reads ρ (.fieldAddr t x i) = ptrO (ρ x) := rfl
theorem reads_indexAddr {ρ : Operand → AV} {t : TypeId} {x y : Operand} : reads ρ (.indexAddr t x y) = ptrO (ρ x) := rfl
theorem reads_move {ρ : Operand → AV} {x : Operand} : reads ρ (.move x) = [] := rfl
theorem reads_assign {ρ : Operand → AV} {x : Operand} : reads ρ (.assign x) = [] := rfl
theorem reads_index {ρ : Operand → AV} {t : TypeId} {x y : Operand} : reads ρ (.index t x y) = [] := rfl
theorem reads_convert {ρ : Operand → AV} {s d : TypeId} {x : Operand} : reads ρ (.convert s d x) = ptrO (ρ x) := rfl
theorem reads_binOp {ρ : Operand → AV} {op : BinOp} {t u : TypeId} {x y : Operand} : reads ρ (.binOp op t x y u) = [] := rfl
theorem reads_unOp {ρ : Operand → AV} {op : UnOp} {t : TypeId} {x : Operand} : reads ρ (.unOp op t x) = [] := rfl
theorem reads_extract {ρ : Operand → AV} {x : Operand} {i : Nat} : reads ρ (.extract x i) = [] := rfl
theorem reads_field {ρ : Operand → AV} {t : TypeId} {x : Operand} {i : Nat} : reads ρ (.field t x i) = [] := rfl
theorem reads_build {ρ : Operand → AV} {t : TypeId} {ps : Array (Nat × Operand)} : reads ρ (.build t ps) = [] := rfl
theorem reads_slice {ρ : Operand → AV} {t : TypeId} {x : Operand} {a b c : Option Operand} : reads ρ (.slice t x a b c) = [] := rfl
theorem reads_call {ρ : Operand → AV} {c : Call} : reads ρ (.call c) = [] := rfl
theorem ptrO_some {i : Nat} {p : List Nat} : ptrO (.ptr (some (i, p))) = [i] := rfl
theorem ptrO_eptr {v : AV} : ptrO (.eptr v) = [] := rfl
theorem ptrO_slice {tk : Tk} {xs : List AV} : ptrO (.slice tk xs) = [] := rfl
theorem keeps_nil : keeps [] σ σ' := fun _ h => by simp at h
theorem keeps_refl : keeps ks σ σ := fun _ _ => rfl
attribute [go_sem ↓] seqE_nil seqE_t seqE_f seqEt_some seqEf_some
attribute [go_sem] reads_load reads_fieldAddr reads_indexAddr reads_move reads_assign reads_index reads_convert reads_binOp reads_unOp reads_extract reads_field reads_build reads_slice reads_call ptrO_some ptrO_eptr ptrO_slice List.nil_append
end Go.Aff

/- Walking: stores; states by what has been added to a first one. -/
namespace Go.Aff
set_option linter.unusedVariables false
set_option linter.unusedSimpArgs false

variable {P : Program} {σ σ' : AST} {K : AV → AST → Prop} {KV : AV → Prop} {KS : AST → Prop}

/-- A state with more objects. -/
def AST.app (σ : AST) (l : List AObj) : AST := ⟨σ.objs ++ l, σ.toks⟩
theorem push_app {o : AObj} : σ.push o = σ.app [o] := rfl
theorem app_app {a b : List AObj} : (σ.app a).app b = σ.app (a ++ b) := by simp [AST.app]
theorem app_nil : σ.app [] = σ := by simp [AST.app]
theorem length_app {l : List AObj} : (σ.app l).objs.length = σ.objs.length + l.length := by simp [AST.app]
theorem toks_app {l : List AObj} : (σ.app l).toks = σ.toks := rfl
theorem objs_app {l : List AObj} {k : Nat} : (σ.app l).objs[σ.objs.length + k]? = l[k]? := by
  simp only [AST.app]; rw [List.getElem?_append_right (by omega)]; congr 1; omega
theorem objs_app0 {l : List AObj} : (σ.app l).objs[σ.objs.length]? = l[0]? := objs_app (k := 0)
theorem cellAt_app {l : List AObj} {k : Nat} {p : List Nat} : cellAt (σ.app l) (σ.objs.length + k) p = (l[k]?).bind fun o => objCell o p := by simp only [cellAt, objs_app]
theorem cellAt_app0 {l : List AObj} {p : List Nat} : cellAt (σ.app l) σ.objs.length p = (l[0]?).bind fun o => objCell o p := cellAt_app (k := 0)
theorem set_app {l : List AObj} {k : Nat} {o : AObj} : (σ.app l).set (σ.objs.length + k) o = σ.app (l.set k o) := by
  simp only [AST.app, AST.set]; congr 1
  rw [List.set_append_right _ _ (by omega)]; congr 2; omega
theorem set_app0 {l : List AObj} {o : AObj} : (σ.app l).set σ.objs.length o = σ.app (l.set 0 o) := set_app (k := 0)
theorem Ext.app (σ : AST) (l : List AObj) : Ext σ (σ.app l) := ⟨l, [], by simp [AST.app]⟩

def storeC (P : Program) (t : TypeId) (o : Option AObj) (p : List Nat) (x : AV) (K : AV → Prop) : Prop := match o with
  | some (.cells v) => match v.at p with
    | some u => fits P t x ∧ x.shape = u.shape ∧ x.known = true ∧ setOk v p x ∧ K (v.setAt p x)
    | none => False
  | _ => False
def storeV (P : Program) (t : TypeId) (v : AV) (u : Option AV) (p : List Nat) (x : AV) (K : AV → Prop) : Prop := match u with
  | some u => fits P t x ∧ x.shape = u.shape ∧ x.known = true ∧ setOk v p x ∧ K (v.setAt p x)
  | none => False
theorem store_ptr {t : TypeId} {j : Nat} {p : List Nat} {x : AV} : storeW P σ t (.ptr (some (j, p))) x KS = storeC P t σ.objs[j]? p x (@LamA _ ⟨fun v' => KS (σ.set j (.cells v'))⟩) := by
  simp only [storeW, storeC, LamA]
  cases h : σ.objs[j]? with
  | none => rfl
  | some o => cases o <;> rfl
theorem storeC_cells {t : TypeId} {v x : AV} {p : List Nat} : storeC P t (some (.cells v)) p x KV = storeV P t v (v.at p) p x KV := nr rfl
theorem storeV_some {t : TypeId} {v u x : AV} {p : List Nat} : storeV P t v (some u) p x KV = ((fits P t x ∧ x.shape = u.shape ∧ x.known = true ∧ setOk v p x) ∧ @Later ⟨KV (v.setAt p x)⟩) := by
  simp [storeV, Later, and_assoc]
theorem setOk_nil {v x : AV} : setOk v [] x = True := by cases v <;> simp [setOk]
theorem setAt_nil {v x : AV} : v.setAt [] x = x := by cases v <;> simp [AV.setAt]
theorem shape_int {k : IntKind} {n : Int} : (AV.int k n).shape = .leaf := by simp [AV.shape]
theorem shape_str {s : List UInt8} : (AV.str s).shape = .leaf := by simp [AV.shape]
theorem shape_bool {b : Bool} : (AV.bool b).shape = .leaf := by simp [AV.shape]
theorem shape_slice {tk : Tk} {xs : List AV} : (AV.slice tk xs).shape = .leaf := by simp [AV.shape]
theorem shape_ptr {p : Option (Nat × List Nat)} : (AV.ptr p).shape = .leaf := by simp [AV.shape]
theorem shape_fn {f : Fn} {a b : List AV} : (AV.fn f a b).shape = .leaf := by simp [AV.shape]

/-- A place of an array of ints in memory. -/
theorem indexAddr_ptr {t e n : Nat} {j : Nat} {k : IntKind} {xs : List Int} {i : Nat} {x : Int} (hu : P.underlying t = some (.array n e)) (he : P.underlying e = some (.int k)) (hc : P.cellsOf e = 1) (hl : xs.length = n)
    (ho : σ.objs[j]? = some (.cells (.agg (xs.map (AV.int k))))) (hi : xs[i]? = some x) (hK : KV (.ptr (some (j, [i])))) {q : IntKind} : indexAddrW P σ t (.ptr (some (j, []))) (.int q i) KV := by
  have hin : i < n := by rw [← hl]; exact (List.getElem?_eq_some_iff.1 hi).1
  have hsz : ∀ l : List Int, AV.sizes (l.map (AV.int k)) = l.length := by
    intro l
    induction l with
    | nil => rfl
    | cons a r ih => simp only [List.map_cons, AV.sizes, AV.size, ih, List.length_cons]; omega
  have hpl : placeOf P t i = some (i * 1, e) := by
    unfold placeOf
    rw [hu]; simp only; rw [if_pos hin, hc]
  simp only [indexAddrW, ho]
  show nthW (xs.map (AV.int k)) (i : Int) _
  refine ⟨by omega, by simp; omega, fun z hz => ?_⟩
  simp only [Int.toNat_natCast, List.getElem?_map, hi, Option.map_some, Option.some.injEq] at hz
  subst hz
  refine ⟨⟨e, ?_, ?_⟩, ⟨e, by rw [List.length_map, hl]; exact hu⟩, ?_⟩
  · rw [Int.toNat_natCast, hpl, ← List.map_take, hsz, List.length_take]
    congr 2; omega
  · unfold fits
    refine ⟨by unfold aggT; rw [he]; rfl, by rw [hc]; simp [AV.size]⟩
  · simpa using hK
theorem cellAt_int {j i : Nat} {k : IntKind} {xs : List Int} {x : Int} (ho : σ.objs[j]? = some (.cells (.agg (xs.map (AV.int k))))) (hi : xs[i]? = some x) : cellAt σ j [i] = some (.int k x) := by
  simp [cellAt, ho, objCell, AV.at, hi]
/-- A store there. -/
theorem store_int {t j i : Nat} {k : IntKind} {xs : List Int} {x y : Int} (ho : σ.objs[j]? = some (.cells (.agg (xs.map (AV.int k))))) (hi : xs[i]? = some x) (hf : fits P t (.int k y)) (hK : KS (σ.set j (.cells (.agg ((xs.set i y).map (AV.int k)))))) :
    storeW P σ t (.ptr (some (j, [i]))) (.int k y) KS := by
  simp only [storeW, ho, AV.at, List.getElem?_map, hi, Option.map_some, Option.bind_some]
  refine ⟨hf, by simp [AV.shape], rfl, ?_, ?_⟩
  · simp only [setOk, List.getElem?_map, hi, Option.map_some, Option.some.injEq]
    rintro v rfl; trivial
  · have : (AV.agg (xs.map (AV.int k))).setAt [i] (.int k y) = .agg ((xs.set i y).map (AV.int k)) := by
      simp only [AV.setAt, List.getElem?_map, hi, Option.map_some, List.map_set]
    rw [this]; exact hK

theorem storeC_int {t i : Nat} {k : IntKind} {xs : List Int} {x y : Int} {o : Option AObj} (ho : o = some (.cells (.agg (xs.map (AV.int k))))) (hi : xs[i]? = some x) (hf : fits P t (.int k y)) (hK : KV (.agg ((xs.set i y).map (AV.int k)))) :
    storeC P t o [i] (.int k y) KV := by
  subst ho
  simp only [storeC, AV.at, List.getElem?_map, hi, Option.map_some, Option.bind_some]
  refine ⟨hf, by simp [AV.shape], rfl, ?_, ?_⟩
  · simp only [setOk, List.getElem?_map, hi, Option.map_some, Option.some.injEq]
    rintro v rfl; trivial
  · have : (AV.agg (xs.map (AV.int k))).setAt [i] (.int k y) = .agg ((xs.set i y).map (AV.int k)) := by
      simp only [AV.setAt, List.getElem?_map, hi, Option.map_some, List.map_set]
    rw [this]; exact hK

/-- A beginning of a slice. -/
theorem slice_hi {t e c b h : Nat} (E : ElemT P t e c b) (hd : ∃ d, P.underlying e = some d) {tk : Tk} {xs : List AV} {q : IntKind} (hx : ∀ v ∈ xs, v.size = c) (hh : h ≤ xs.length) (hK : ∀ tk', KV (.slice tk' (xs.take h))) :
    sliceW P t (.slice tk xs) none (some (.int q (h : Nat))) none KV := by
  refine ⟨e, E.hu, by rw [E.hc]; exact hx, hd, ?_⟩
  simp only [bndW, Int.toNat_natCast, List.drop_zero]
  exact ⟨by omega, Nat.zero_le _, hh, hK _⟩
/-- An end of one. -/
theorem slice_lo {t e c b h : Nat} (E : ElemT P t e c b) (hd : ∃ d, P.underlying e = some d) {tk : Tk} {xs : List AV} {q : IntKind} (hx : ∀ v ∈ xs, v.size = c) (hh : h ≤ xs.length) (hK : ∀ tk', KV (.slice tk' (xs.drop h))) :
    sliceW P t (.slice tk xs) (some (.int q (h : Nat))) none none KV := by
  refine ⟨e, E.hu, by rw [E.hc]; exact hx, hd, ?_⟩
  simp only [bndW, Int.toNat_natCast, List.take_length]
  exact ⟨by omega, hh, Nat.le_refl _, hK _⟩
theorem one_cell {t : Tmp} {ty : TypeId} {τ : Env} : oneRes P τ σ (.cell t ty) KV = loadW P σ ty (τ t) KV := nr rfl
attribute [go_sem ↓] one_cell
attribute [go_sem] store_ptr storeC_cells storeV_some setOk_nil setAt_nil shape_int shape_str shape_bool shape_slice shape_ptr shape_fn
end Go.Aff

/- Walking: structs as elements, arrays as values, two owners at once. -/
namespace Go.Aff
set_option linter.unusedVariables false
set_option linter.unusedSimpArgs false

variable {P : Program} {σ σ' : AST} {K : AV → AST → Prop} {KV : AV → Prop} {KS : AST → Prop}

theorem fits_agg {t n : Nat} (ha : aggT P t = some true) (hc : P.cellsOf t = n) {v : AV} : fits P t v = (v.isAgg = true ∧ v.size = n) := by
  unfold fits
  rw [ha, hc, eq_iff_iff]
  constructor
  · rintro ⟨h1, h2⟩; exact ⟨(Option.some.inj h1).symm, h2.symm⟩
  · rintro ⟨h1, h2⟩; exact ⟨by rw [h1], h2.symm⟩
theorem shape_agg {ps : List AV} : (AV.agg ps).shape = .node (AV.shapes ps) := by simp [AV.shape]
theorem shapes_nil : AV.shapes [] = [] := rfl
theorem shapes_cons {p : AV} {r : List AV} : AV.shapes (p :: r) = p.shape :: AV.shapes r := by simp [AV.shapes]
theorem shape_dig {d : Dig} : (AV.dig d).shape = .dig := by simp [AV.shape]
theorem fill_nil {t : TypeId} {v : AV} : fillW P t [] v KV = KV v := by cases v <;> rfl
theorem fill_cons {t : TypeId} {i : Nat} {x : AV} {r : List (Nat × AV)} {ps : List AV} {u : AV} (hu : ps[i]? = some u) (h1 : partIs P t ps i x) (h2 : u.shape = x.shape) (h3 : x.known = true) (hK : fillW P t r (.agg (ps.set i x)) KV) :
    fillW P t ((i, x) :: r) (.agg ps) KV := by
  unfold fillW
  exact ⟨u, hu, h1, h2, h3, hK⟩
/-- An array of texts, as a value. -/
theorem index_strs {t e n : Nat} {xs : List (List UInt8)} {i : Nat} {x : List UInt8} {q : IntKind} (hu : P.underlying t = some (.array n e)) (ha : aggT P e = some false) (hc : P.cellsOf e = 1) (hl : xs.length = n) (hi : xs[i]? = some x) (hK : KV (.str x)) :
    indexW P t (.agg (xs.map AV.str)) (.int q i) KV := by
  have hin : i < n := by rw [← hl]; exact (List.getElem?_eq_some_iff.1 hi).1
  have hsz : ∀ l : List (List UInt8), AV.sizes (l.map AV.str) = l.length := by
    intro l
    induction l with
    | nil => rfl
    | cons a r ih => simp only [List.map_cons, AV.sizes, AV.size, ih, List.length_cons]; omega
  unfold indexW
  refine ⟨by omega, by simp; omega, fun z hz => ?_⟩
  simp only [Int.toNat_natCast, List.getElem?_map, hi, Option.map_some, Option.some.injEq] at hz
  subst hz
  refine ⟨⟨e, ?_, ?_⟩, ⟨e, by rw [List.length_map, hl]; exact hu⟩, hK⟩
  · unfold placeOf
    rw [Int.toNat_natCast, hu]; simp only; rw [if_pos hin, hc, ← List.map_take, hsz, List.length_take]
    congr 2; omega
  · rw [fits_leaf ha hc]; exact ⟨rfl, by simp [AV.size]⟩

/-! ### Two owners -/
def apart (a b : Tk) : Prop := ∀ k, a = .own k → b ≠ .own k
theorem apart_full {b : Tk} : apart .full b := fun k h => by cases h
theorem apart.symm {a b : Tk} (h : apart a b) : apart b a := fun k h1 h2 => h k h2 h1
theorem canApp_apart {a b : Tk} {n m e f : Nat} (h : apart a b) (hc : canApp σ b m f) : canApp (growS σ a n e) b m f := by
  cases b with
  | none => exact hc.elim
  | lit => exact hc.elim
  | full => trivial
  | own k =>
    simp only [canApp] at hc ⊢
    cases a with
    | none => exact hc
    | lit => exact hc
    | full =>
      simp only [growS, AST.tok]
      rw [List.getElem?_append_left (List.getElem?_eq_some_iff.1 hc).1]; exact hc
    | own j =>
      have hne : j ≠ k := fun e => by subst e; exact h j rfl rfl
      simp only [growS, AST.setTok]
      rw [List.getElem?_set_ne hne]; exact hc
theorem apart_grow {a b : Tk} {m f : Nat} (h : apart a b) (hc : canApp σ b m f) : apart (growT σ a) b := by
  cases a with
  | full =>
    intro k hk
    cases hk
    intro e
    subst e
    have := (List.getElem?_eq_some_iff.1 hc).1
    omega
  | own j => exact h
  | none => exact h
  | lit => exact h
theorem canApp_push {tk : Tk} {n e : Nat} {o : AObj} : canApp (σ.push o) tk n e = canApp σ tk n e := by cases tk <;> rfl
theorem canApp_app {tk : Tk} {n e : Nat} {l : List AObj} : canApp (σ.app l) tk n e = canApp σ tk n e := by cases tk <;> rfl
theorem canApp_set {tk : Tk} {n e i : Nat} {o : AObj} : canApp (σ.set i o) tk n e = canApp σ tk n e := by cases tk <;> rfl
/-- What a slice is when its owner is forgotten. -/
def slS {α : Type} (f : α → AV) (l : List α) : AV := if l = [] then .slice .full [] else .slice .none (l.map f)
theorem slS_nil {α : Type} {f : α → AV} : slS f [] = .slice .full [] := rfl
/-- A slice of which one knows: nil, or somebody's. -/
def tkF {α : Type} (l : List α) (tk : Tk) : Prop := (l = [] ∧ tk = .full) ∨ (l ≠ [] ∧ ∃ k, tk = .own k)
theorem strips_leaf {α : Type} {f : α → AV} (h : ∀ x, (f x).strip = f x) : ∀ {l : List α}, AV.strips (l.map f) = l.map f
  | [] => by simp [AV.strips]
  | x :: r => by simp [AV.strips, h x, strips_leaf h (l := r)]
theorem strip_tkF {α : Type} {f : α → AV} (h : ∀ x, (f x).strip = f x) {l : List α} {tk : Tk} (ht : tkF l tk) : (AV.slice tk (l.map f)).strip = slS f l := by
  rcases ht with ⟨rfl, rfl⟩ | ⟨hne, k, rfl⟩
  · simp [slS, AV.strip]
  · simp only [slS, if_neg hne, AV.strip]
    rw [strips_leaf h]
theorem strip_slS {α : Type} {f : α → AV} (h : ∀ x, (f x).strip = f x) {l : List α} : (slS f l).strip = slS f l := by
  unfold slS
  split
  · simp [AV.strip]
  · rename_i hne
    cases l with
    | nil => exact absurd rfl hne
    | cons x r => simp [AV.strip, strips_leaf h, AV.strips, h x]
theorem noRefs_leaf {α : Type} {f : α → AV} (h : ∀ x, (f x).noRef = true) : ∀ {l : List α}, AV.noRefs (l.map f) = true
  | [] => rfl
  | x :: r => by simp [AV.noRefs, h x, noRefs_leaf h (l := r)]
theorem noRef_slS {α : Type} {f : α → AV} (h : ∀ x, (f x).noRef = true) {l : List α} : (slS f l).noRef = true := by
  unfold slS; split
  · rfl
  · simp only [AV.noRef]; exact noRefs_leaf h
theorem slS_tk {α : Type} {f : α → AV} {l : List α} : ∃ tk, slS f l = .slice tk (l.map f) := by
  unfold slS; split
  · rename_i h; subst h; exact ⟨.full, rfl⟩
  · exact ⟨.none, rfl⟩
theorem objs_ext {σ s : AST} {l : List AObj} (h : Ext (σ.app l) s) {k : Nat} (hk : k < l.length) : s.objs[σ.objs.length + k]? = l[k]? := by
  obtain ⟨O, T, rfl⟩ := h
  simp only [AST.app, List.append_assoc]
  rw [List.getElem?_append_right (by omega), show σ.objs.length + k - σ.objs.length = k by omega, List.getElem?_append_left hk]
theorem cell_ext {σ s : AST} {l : List AObj} (h : Ext (σ.app l) s) {k : Nat} {v : AV} (hk : l[k]? = some (.cells v)) (p : List Nat) : cellAt s (σ.objs.length + k) p = v.at p := by
  simp only [cellAt, objs_ext h (List.getElem?_eq_some_iff.1 hk).1, hk, Option.bind_some, objCell]
theorem cell_ext0 {σ s : AST} {l : List AObj} (h : Ext (σ.app l) s) {v : AV} (hk : l[0]? = some (.cells v)) (p : List Nat) : cellAt s σ.objs.length p = v.at p := cell_ext (k := 0) h hk p
attribute [go_sem] shape_agg shapes_nil shapes_cons shape_dig
end Go.Aff

/- Drawn regions, again: what is read ahead of everything that is left behind need not stay. Stores into parts. -/
namespace Go.Aff
set_option linter.unusedVariables false
set_option linter.unusedSimpArgs false

variable {P : Program} {σ σ' : AST} {ops : Array Oper} {τ : Env} {KE : Env → AST → Prop}

/-- What an operation is: 0: it reads, and that must stay; 1: it may leave something behind; 2: it reads, and stands ahead of all that is left behind later. -/
def seqF (P : Program) (ops : Array Oper) : List (Nat × Nat) → List Nat → Env → AST → (Env → AST → Prop) → Prop
  | [], ks, τ, σ, K => K τ σ
  | (i, 1) :: r, ks, τ, σ, K => match gop ops i with
    | none => False
    | some o => stepW P ops o τ σ fun v σ' => keeps ks σ σ' ∧ seqF P ops r ks (τ.putO o.dst v) σ' K
  | (i, 0) :: r, ks, τ, σ, K => match gop ops i with
    | none => False
    | some o => stepW P ops o τ σ fun v σ' => σ' = σ ∧ seqF P ops r (reads (ev τ) o.op ++ ks) (τ.putO o.dst v) σ' K
  | (i, _) :: r, ks, τ, σ, K => match gop ops i with
    | none => False
    | some o => stepW P ops o τ σ fun v σ' => σ' = σ ∧ seqF P ops r ks (τ.putO o.dst v) σ' K

def flagsF (P : Program) (ops : Array Oper) : List (Nat × Nat) → Bool
  | [] => true
  | (i, k) :: r => (match ops[i]? with
    | none => false
    | some o => effO P o == (k == 1)) && (k == 0 || k == 1 || r.all fun y => y.2 != 1 || ahead (anc ops) y.1 i) && flagsF P ops r

def pastF (P : Program) (ops : Array Oper) (ks : List Nat) (past : List (Nat × Env × AV)) (r : List (Nat × Nat)) (σ : AST) : Prop :=
  ∀ x ∈ past, (∀ o, ops[x.1]? = some o → (∀ t, lenOk (x.2.1 t)) ∧ effO P o = false ∧ (∀ k ∈ reads (ev x.2.1) o.op, k ∈ ks) ∧ stepW P ops o x.2.1 σ fun v' σ'' => v' = x.2.2 ∧ σ'' = σ) ∨ (∀ y ∈ r, y.2 = 1 → ahead (anc ops) y.1 x.1 = true)

theorem seqF_awpD : ∀ (l : List (Nat × Nat)) (ks : List Nat) (past : List (Nat × Env × AV)) (τ : Env) (σ : AST), flagsF P ops l = true → pastF P ops ks past l σ → (∀ t, lenOk (τ t)) → seqF P ops l ks τ σ KE → awpD P ops (l.map (·.1)) past τ σ KE
  | [], ks, past, τ, σ, hf, hp, hlen, h => h
  | (i, 1) :: r, ks, past, τ, σ, hf, hp, hlen, h => by
    simp only [seqF] at h
    split at h
    · exact h.elim
    · rename_i o hk
      have hk : ops[i]? = some o := hk
      simp only [flagsF, hk, Bool.and_eq_true, beq_iff_eq] at hf
      have he : effO P o = true := by simpa using hf.1.1
      simp only [List.map_cons, awpD, hk, he, if_true]
      refine stepW_mono (fun v σ' hh => ?_) h
      refine ⟨fun x hx hah o ho => ?_, fun hlv => seqF_awpD r ks past _ _ hf.2 ?_ hlv hh.2⟩
      · rcases hp x hx with h0 | h0
        · obtain ⟨h1, h2, h3, h4⟩ := h0 o ho
          exact step_same h1 h2 (fun k hk => hh.1 k (h3 k hk)) h4
        · rw [h0 (i, 1) (by simp) rfl] at hah; cases hah
      · intro x hx
        rcases hp x hx with h0 | h0
        · left
          intro o ho
          obtain ⟨h1, h2, h3, h4⟩ := h0 o ho
          exact ⟨h1, h2, h3, step_same h1 h2 (fun k hk => hh.1 k (h3 k hk)) h4⟩
        · right
          intro y hy; exact h0 y (List.mem_cons_of_mem _ hy)
  | (i, 0) :: r, ks, past, τ, σ, hf, hp, hlen, h => by
    simp only [seqF] at h
    split at h
    · exact h.elim
    · rename_i o hk
      have hk : ops[i]? = some o := hk
      simp only [flagsF, hk, Bool.and_eq_true, beq_iff_eq] at hf
      have he : effO P o = false := by simpa using hf.1.1
      simp only [List.map_cons, awpD, hk, he, Bool.false_eq_true, if_false]
      obtain ⟨v, hv, hkk⟩ := stepW_det hlen he h
      refine hkk _ fun hlv => seqF_awpD r _ _ _ _ hf.2 ?_ hlv hv.2
      intro x hx
      rcases List.mem_cons.1 hx with rfl | hx
      · left
        intro o' ho'
        dsimp only at ho' ⊢
        rw [hk] at ho'; cases ho'
        exact ⟨hlen, he, fun k hk => List.mem_append_left _ hk, hkk _ ⟨rfl, rfl⟩⟩
      · rcases hp x hx with h0 | h0
        · left
          intro o' ho'
          obtain ⟨h1, h2, h3, h4⟩ := h0 o' ho'
          exact ⟨h1, h2, fun k hk => List.mem_append_right _ (h3 k hk), h4⟩
        · right; intro y hy; exact h0 y (List.mem_cons_of_mem _ hy)
  | (i, n + 2) :: r, ks, past, τ, σ, hf, hp, hlen, h => by
    simp only [seqF] at h
    split at h
    · exact h.elim
    · rename_i o hk
      have hk : ops[i]? = some o := hk
      simp only [flagsF, hk, Bool.and_eq_true, beq_iff_eq] at hf
      have he : effO P o = false := by simpa using hf.1.1
      have hall := hf.1.2
      simp only [List.map_cons, awpD, hk, he, Bool.false_eq_true, if_false]
      obtain ⟨v, hv, hkk⟩ := stepW_det hlen he h
      refine hkk _ fun hlv => seqF_awpD r _ _ _ _ hf.2 ?_ hlv hv.2
      intro x hx
      rcases List.mem_cons.1 hx with rfl | hx
      · right
        intro y hy h1
        have hall : (r.all fun y => y.2 != 1 || ahead (anc ops) y.1 i) = true := by simpa using hall
        rw [List.all_eq_true] at hall
        have := hall y hy
        simpa [h1] using this
      · rcases hp x hx with h0 | h0
        · exact .inl h0
        · right; intro y hy; exact h0 y (List.mem_cons_of_mem _ hy)

theorem awp_drawF {id : Nat} {ops : Array Oper} {Q : Exit → Env → AST → Prop} (ord : List (Nat × Nat)) (ho : (ordOk P ops (ord.map (·.1)) && flagsF P ops ord) = true) (h : seqF P ops ord [] τ σ (Q .normal)) : awp P (.region id ops true) Q τ σ := by
  rw [Bool.and_eq_true] at ho
  exact awp_draw _ ho.1 fun hlen => seqF_awpD ord [] [] τ σ ho.2 (fun x hx => by simp at hx) hlen h

def seqF0 (P : Program) (ops : Array Oper) (o : Option Oper) (r : List (Nat × Nat)) (ks : List Nat) (τ : Env) (σ : AST) (K : Env → AST → Prop) : Prop := match o with
  | none => False
  | some o => stepW P ops o τ σ fun v σ' => σ' = σ ∧ seqF P ops r (reads (ev τ) o.op ++ ks) (τ.putO o.dst v) σ' K
def seqF1 (P : Program) (ops : Array Oper) (o : Option Oper) (r : List (Nat × Nat)) (ks : List Nat) (τ : Env) (σ : AST) (K : Env → AST → Prop) : Prop := match o with
  | none => False
  | some o => stepW P ops o τ σ fun v σ' => keeps ks σ σ' ∧ seqF P ops r ks (τ.putO o.dst v) σ' K
def seqF2 (P : Program) (ops : Array Oper) (o : Option Oper) (r : List (Nat × Nat)) (ks : List Nat) (τ : Env) (σ : AST) (K : Env → AST → Prop) : Prop := match o with
  | none => False
  | some o => stepW P ops o τ σ fun v σ' => σ' = σ ∧ seqF P ops r ks (τ.putO o.dst v) σ' K
variable {ks : List Nat}
theorem seqF_nil : seqF P ops [] ks τ σ KE = KE τ σ := nr rfl
theorem seqF_1 {i : Nat} {r : List (Nat × Nat)} : seqF P ops ((i, 1) :: r) ks τ σ KE = seqF1 P ops (gop ops i) r ks τ σ KE := by simp only [seqF, seqF1]
theorem seqF_0 {i : Nat} {r : List (Nat × Nat)} : seqF P ops ((i, 0) :: r) ks τ σ KE = seqF0 P ops (gop ops i) r ks τ σ KE := by simp only [seqF, seqF0]
theorem seqF_2 {i : Nat} {r : List (Nat × Nat)} : seqF P ops ((i, 2) :: r) ks τ σ KE = seqF2 P ops (gop ops i) r ks τ σ KE := by simp only [seqF, seqF2]
theorem seqF1_some {o : Oper} {r : List (Nat × Nat)} : seqF1 P ops (some o) r ks τ σ KE = stepW P ops o τ σ (@Lam ⟨fun v σ' => @Later ⟨keeps ks σ σ' ∧ seqF P ops r ks (τ.putO o.dst v) σ' KE⟩⟩) := nr rfl
theorem seqF0_some {o : Oper} {r : List (Nat × Nat)} : seqF0 P ops (some o) r ks τ σ KE = stepW P ops o τ σ (@Lam ⟨fun v σ' => σ' = σ ∧ @Later ⟨seqF P ops r (reads (ev τ) o.op ++ ks) (τ.putO o.dst v) σ' KE⟩⟩) := nr rfl
theorem seqF2_some {o : Oper} {r : List (Nat × Nat)} : seqF2 P ops (some o) r ks τ σ KE = stepW P ops o τ σ (@Lam ⟨fun v σ' => σ' = σ ∧ @Later ⟨seqF P ops r ks (τ.putO o.dst v) σ' KE⟩⟩) := nr rfl
attribute [go_sem ↓] seqF_nil seqF_0 seqF_1 seqF_2 seqF0_some seqF1_some seqF2_some
theorem reads_buildSlice {ρ : Operand → AV} {t : TypeId} {n : Nat} {ps : Array (Nat × Operand)} : reads ρ (.buildSlice t n ps) = [] := rfl
attribute [go_sem] reads_buildSlice

theorem res_ct {a b : Nat} {ty : TypeId} {KV : AV → Prop} : resW P [.cell a ty, .tmp b] τ σ KV = loadW P σ ty (τ a) (@LamA _ ⟨fun x => (x.known = true ∧ (τ b).known = true) ∧ @Later ⟨KV (.tuple [x, τ b])⟩⟩) := by
  simp [resW, resList, oneRes, Later, LamA]
theorem res_tc {a b : Nat} {ty : TypeId} {KV : AV → Prop} : resW P [.tmp a, .cell b ty] τ σ KV = loadW P σ ty (τ b) (@LamA _ ⟨fun x => ((τ a).known = true ∧ x.known = true) ∧ @Later ⟨KV (.tuple [τ a, x])⟩⟩) := by
  simp [resW, resList, oneRes, Later, LamA]
attribute [go_sem ↓] res_ct res_tc
theorem growS_app {tk : Tk} {n e : Nat} {l : List AObj} : growS (σ.app l) tk n e = (growS σ tk n e).app l := by cases tk <;> rfl
theorem growT_app {tk : Tk} {l : List AObj} : growT (σ.app l) tk = growT σ tk := by cases tk <;> rfl
/-! ### Stores into parts -/
def setAtO (ps : List AV) (i : Nat) (p : List Nat) (x : AV) : Option AV → AV
  | some v => .agg (ps.set i (v.setAt p x))
  | none => .agg ps
theorem setAt_agg {ps : List AV} {i : Nat} {p : List Nat} {x : AV} : (AV.agg ps).setAt (i :: p) x = setAtO ps i p x ps[i]? := by
  simp only [AV.setAt]; cases ps[i]? <;> rfl
theorem setAtO_some {ps : List AV} {i : Nat} {p : List Nat} {x v : AV} : setAtO ps i p x (some v) = .agg (ps.set i (v.setAt p x)) := rfl
def setOkO (p : List Nat) (x : AV) : Option AV → Prop
  | some v => setOk v p x
  | none => True
theorem setOk_agg {ps : List AV} {i : Nat} {p : List Nat} {x : AV} : setOk (.agg ps) (i :: p) x = setOkO p x ps[i]? := by
  simp only [setOk, eq_iff_iff]
  cases h : ps[i]? with
  | none => simp [setOkO]
  | some v => simp [setOkO]
theorem setOkO_some {p : List Nat} {x v : AV} : setOkO p x (some v) = setOk v p x := rfl
attribute [go_sem] setAt_agg setAtO_some setOk_agg setOkO_some
end Go.Aff

/- Walking: pointers compared, digests compared, arrays of anything in memory, slices of them, states known by their cells. -/
namespace Go.Aff
set_option linter.unusedVariables false
set_option linter.unusedSimpArgs false

variable {τ : Env} {P : Program} {σ σ' : AST} {K : AV → AST → Prop} {KV : AV → Prop} {KS : AST → Prop}

def isPtrT (P : Program) (t : TypeId) : Bool := match P.underlying t with | some (.pointer _) => true | _ => false
theorem isPtrT_iff {t : TypeId} (h : isPtrT P t = true) : ∃ a, P.underlying t = some (.pointer a) := by
  unfold isPtrT at h; split at h
  · exact ⟨_, by assumption⟩
  · cases h
theorem bin_ptr_eql {t : TypeId} (hu : isPtrT P t = true) {p : Option (Nat × List Nat)} : binW P .eql t (.ptr p) (.ptr none) KV = KV (.bool p.isNone) := by
  obtain ⟨a, h⟩ := isPtrT_iff hu
  cases p <;> simp [binW, eqW, eqA, h]
theorem bin_ptr_neq {t : TypeId} (hu : isPtrT P t = true) {p : Option (Nat × List Nat)} : binW P .neq t (.ptr p) (.ptr none) KV = KV (.bool !p.isNone) := by
  obtain ⟨a, h⟩ := isPtrT_iff hu
  cases p <;> simp [binW, eqW, eqA, h]

def digT (P : Program) (t : TypeId) : Bool := !P.eqGuardType P.depth t && match P.underlying t with | some (.array 32 e) => isU8 P e && P.cellsOf e == 1 | _ => false
theorem digT_iff {t : TypeId} (h : digT P t = true) : P.eqGuardType P.depth t = false ∧ ∃ e, P.underlying t = some (.array 32 e) ∧ isU8 P e = true ∧ P.cellsOf e = 1 := by
  unfold digT at h
  simp only [Bool.and_eq_true, Bool.not_eq_true'] at h
  obtain ⟨h1, h2⟩ := h
  split at h2
  · rename_i e he
    simp only [Bool.and_eq_true, beq_iff_eq] at h2
    exact ⟨h1, e, he, h2.1, h2.2⟩
  · cases h2
theorem bin_dig_eql {t : TypeId} (hu : digT P t = true) {a b : Dig} : binW P .eql t (.dig a) (.dig b) KV = KV (.bool (a.l == b.l)) := by
  obtain ⟨h1, e, h2, h3, h4⟩ := digT_iff hu
  simp [binW, eqW, eqA, h1, h2, h3, h4]
theorem bin_dig_neq {t : TypeId} (hu : digT P t = true) {a b : Dig} : binW P .neq t (.dig a) (.dig b) KV = KV (.bool !(a.l == b.l)) := by
  obtain ⟨h1, e, h2, h3, h4⟩ := digT_iff hu
  simp [binW, eqW, eqA, h1, h2, h3, h4]
theorem nilCheck_some {q : Nat × List Nat} : nilCheckW (.ptr (some q)) KV = KV (.ptr (some q)) := nr rfl
theorem cellAt_known {j : Nat} {v : AV} (h : σ.objs[j]? = some (.cells v)) (p : List Nat) : cellAt σ j p = v.at p := by simp only [cellAt, h, Option.bind_some, objCell]
theorem cellAt_known_app {j : Nat} {v : AV} (h : σ.objs[j]? = some (.cells v)) (p : List Nat) (d : List AObj) : cellAt (σ.app d) j p = v.at p := by
  have hj : j < σ.objs.length := (List.getElem?_eq_some_iff.1 h).1
  simp only [cellAt, AST.app, List.getElem?_append_left hj, h, Option.bind_some, objCell]
theorem objs_known_app {j : Nat} {o : AObj} (h : σ.objs[j]? = some o) (d : List AObj) : (σ.app d).objs[j]? = some o := by
  have hj : j < σ.objs.length := (List.getElem?_eq_some_iff.1 h).1
  simp only [AST.app, List.getElem?_append_left hj, h]
theorem objs_known_ext {j : Nat} {o : AObj} (h : σ.objs[j]? = some o) (hx : Ext σ σ') : σ'.objs[j]? = some o := by
  obtain ⟨O, T, rfl⟩ := hx
  have hj : j < σ.objs.length := (List.getElem?_eq_some_iff.1 h).1
  simp only [List.getElem?_append_left hj, h]
theorem cellAt_known_ext {j : Nat} {v : AV} (h : σ.objs[j]? = some (.cells v)) (hx : Ext σ σ') (p : List Nat) : cellAt σ' j p = v.at p := cellAt_known (objs_known_ext h hx) p
theorem keeps_none : keeps [] σ σ' = True := by simp only [eq_iff_iff, iff_true]; exact keeps_nil
theorem reads_nilCheck {ρ : Operand → AV} {x : Operand} : reads ρ (.nilCheck x) = [] := rfl
theorem keeps_app {ks : List Nat} {a b : List AObj} (h : ∀ k ∈ ks, k < σ.objs.length) : keeps ks (σ.app a) (σ.app b) := fun k hk => by
  simp only [AST.app]; rw [List.getElem?_append_left (h k hk), List.getElem?_append_left (h k hk)]
theorem keeps_push {ks : List Nat} {o : AObj} (h : ∀ k ∈ ks, k < σ.objs.length) : keeps ks σ (σ.push o) := fun k hk => by
  simp only [AST.push]; rw [List.getElem?_append_left (h k hk)]
attribute [go_sem] reads_nilCheck keeps_none nilCheck_some isPtrT bin_ptr_eql bin_ptr_neq Option.isNone_some Option.isNone_none

theorem sizes_all {c : Nat} : ∀ {l : List AV}, (∀ v ∈ l, v.size = c) → AV.sizes l = l.length * c
  | [], _ => by simp [AV.sizes]
  | v :: r, h => by
    have h1 := h v (by simp)
    have h2 := sizes_all (l := r) fun x hx => h x (by simp [hx])
    simp only [AV.sizes, h1, h2, List.length_cons, Nat.succ_mul]; omega

/-- A place of an array in memory. -/
theorem indexAddr_arr {t e n c : Nat} {j : Nat} {p : List Nat} {xs : List AV} {i : Nat} {x : AV} {q : IntKind} (hu : P.underlying t = some (.array n e)) (hc : P.cellsOf e = c) (hl : xs.length = n) (hs : ∀ v ∈ xs, v.size = c)
    (ho : cellAt σ j p = some (.agg xs)) (hi : xs[i]? = some x) (hf : fits P e x) (hK : KV (.ptr (some (j, p ++ [i])))) : indexAddrW P σ t (.ptr (some (j, p))) (.int q i) KV := by
  have hin : i < n := by rw [← hl]; exact (List.getElem?_eq_some_iff.1 hi).1
  have hpl : placeOf P t i = some (i * c, e) := by
    unfold placeOf
    rw [hu]; simp only; rw [if_pos hin, hc]
  have hsz : AV.sizes (xs.take i) = i * c := by
    rw [sizes_all (c := c) fun v hv => hs v (List.mem_of_mem_take hv), List.length_take, Nat.min_eq_left (by omega)]
  simp only [cellAt, Option.bind_eq_some_iff] at ho
  obtain ⟨o, h1, h2⟩ := ho
  cases o with
  | cells v =>
    simp only [objCell] at h2
    simp only [indexAddrW, h1, h2]
    refine ⟨by omega, by omega, fun z hz => ?_⟩
    simp only [Int.toNat_natCast] at hz ⊢
    rw [hi] at hz; cases hz
    refine ⟨⟨e, ?_, hf⟩, ⟨e, by rw [hl]; exact hu⟩, hK⟩
    rw [hpl, hsz]
  | _ => simp [objCell] at h2

/-- A place of a digest in memory. -/
theorem indexAddr_dig {t e : TypeId} {j : Nat} {p : List Nat} {d : Dig} {i : Nat} {q : IntKind} (hu : P.underlying t = some (.array 32 e)) (hf : fits P e (.int .u8 0)) (ho : cellAt σ j p = some (.dig d)) (hi : i < 32) (hK : KV (.ptr (some (j, p ++ [i])))) :
    indexAddrW P σ t (.ptr (some (j, p))) (.int q i) KV := by
  simp only [cellAt, Option.bind_eq_some_iff] at ho
  obtain ⟨o, h1, h2⟩ := ho
  cases o with
  | cells v =>
    simp only [objCell] at h2
    simp only [indexAddrW, h1, h2]
    refine ⟨by omega, by rw [d.h]; omega, fun z hz => ?_⟩
    exact ⟨⟨e, hu, hf⟩, by rw [Int.toNat_natCast]; exact hK⟩
  | _ => simp [objCell] at h2
theorem at_dig1 {d : Dig} {i : Nat} : (AV.dig d).at [i] = (d.l[i]?).map fun b => .int .u8 b.toNat := rfl
/-- A place of a slice of an array in memory. -/
theorem indexAddr_part {t e m c : Nat} {j : Nat} {p : List Nat} {xs : List AV} {i : Nat} {x : AV} {q : IntKind} (hu : P.underlying t = some (.slice e)) (hc : P.cellsOf e = c) (hm : m ≤ xs.length) (hs : ∀ v ∈ xs, v.size = c) (him : i < m)
    (ho : cellAt σ j p = some (.agg xs)) (hi : xs[i]? = some x) (hf : fits P e x) (hK : KV (.ptr (some (j, p ++ [i])))) : indexAddrW P σ t (.arr j p m) (.int q i) KV := by
  have hsz : AV.sizes (xs.take i) = i * c := by
    rw [sizes_all (c := c) fun v hv => hs v (List.mem_of_mem_take hv), List.length_take, Nat.min_eq_left (by omega)]
  simp only [cellAt, Option.bind_eq_some_iff] at ho
  obtain ⟨o, h1, h2⟩ := ho
  cases o with
  | cells v =>
    simp only [objCell] at h2
    simp only [indexAddrW, h1, h2]
    refine ⟨e, hu, hm, by rw [Int.toNat_natCast, hsz, hc], by omega, by rw [List.length_take]; omega, fun z hz => ?_⟩
    simp only [Int.toNat_natCast] at hz ⊢
    rw [List.getElem?_take, if_pos him, hi] at hz; cases hz
    exact ⟨hf, hK⟩
  | _ => simp [objCell] at h2
/-- An array in memory, sliced. -/
theorem slice_arr {t e n h : Nat} {j : Nat} {p : List Nat} {q : IntKind} (hu : P.underlying t = some (.array n e)) (hn : n ≤ maxL) (he : ∃ d, P.underlying e = some d) (hh : h ≤ n) (hK : KV (.arr j p h)) :
    sliceW P t (.ptr (some (j, p))) none (some (.int q h)) none KV := by
  refine ⟨e, n, .inr hu, hn, he, rfl, rfl, by omega, ?_⟩
  simp only [Int.toNat_natCast]; exact ⟨hh, hK⟩

theorem mm_min {k : IntKind} {a b : Int} : mmW false [.int k a, .int k b] KV = KV (.int k (min a b)) := by simp [mmW]
attribute [go_sem] mm_min
theorem res_ttc {a b c : Nat} {ty : TypeId} : resW P [.tmp a, .tmp b, .cell c ty] τ σ KV = loadW P σ ty (τ c) (@LamA _ ⟨fun x => ((τ a).known = true ∧ (τ b).known = true ∧ x.known = true) ∧ @Later ⟨KV (.tuple [τ a, τ b, x])⟩⟩) := by
  simp [resW, resList, oneRes, Later, LamA]
theorem res_ttt {a b c : Nat} : resW P [.tmp a, .tmp b, .tmp c] τ σ KV = (((τ a).known = true ∧ (τ b).known = true ∧ (τ c).known = true) ∧ @Later ⟨KV (.tuple [τ a, τ b, τ c])⟩) := by
  simp [resW, resList, oneRes, Later, LamA]
attribute [go_sem ↓] res_ttc
end Go.Aff

