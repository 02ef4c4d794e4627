/- Regions that draw their order and leave something behind: walked in one order. -/
import Derived.Test.YtnoopjlfcdmdfaaAffZ
namespace Go.Aff
set_option linter.unusedVariables false
set_option linter.unusedSimpArgs false

variable {P : Program} {σ σ' : AST} {ops : Array Oper} {τ : Env} {KE : Env → AST → Prop}

/-- The object that an operation reads. -/
def ptrO : AV → List Nat
  | .ptr (some (i, _)) => [i]
  | _ => []
def reads (ρ : Operand → AV) : Op → List Nat
  | .load _ x => ptrO (ρ x)
  | .fieldAddr _ x _ => ptrO (ρ x)
  | .indexAddr _ x _ => ptrO (ρ x)
  | _ => []
def keeps (ks : List Nat) (σ σ' : AST) : Prop := ∀ k ∈ ks, σ'.objs[k]? = σ.objs[k]?

theorem opW_free {ρ : Operand → AV} {o : Oper} {p : AV → Prop} (he : effO P o = false) (hs : keeps (reads ρ o.op) σ σ') (h : opW P ρ o σ fun v _ => p v) : opW P ρ o σ' fun v _ => p v := by
  obtain ⟨dst, op, type, pos, after, guard⟩ := o
  cases op <;> simp only [effO] at he <;> simp only [opW] at h ⊢ <;> try exact h
  case convert s d x =>
    unfold convW at h ⊢
    split at h
    · exact h
    · rcases h with h | ⟨e, h1, h2, h3, h4⟩
      · exact .inl h
      · rw [h1] at he; simp at he
    · exact h
    · exact h
  case load t a =>
    unfold loadW at h ⊢
    split at h
    · rename_i i p ha
      rw [hs i (by simp [reads, ha, ptrO])]
      exact h
    · exact h
    · exact h.elim
  case fieldAddr t x i =>
    refine ⟨h.1, ?_⟩
    have h := h.2
    unfold fieldAddrW at h ⊢
    split at h
    · rename_i j p ha
      rw [hs j (by simp [reads, ha, ptrO])]
      exact h
    · exact h
    · exact h.elim
  case indexAddr t x i =>
    unfold indexAddrW at h ⊢
    split at h
    · split at h
      · exact h
      · rename_i j p ha
        rw [hs j (by simp [reads, ha, ptrO])]
        exact h
      · exact h
      · exact h.elim
    · exact h.elim
  case call c =>
    unfold callW at h ⊢
    split at h
    · rename_i hc; simp [hc] at he
    · exact h
    · exact h
    · exact h
    · rename_i hc; simp [hc] at he
    · exact h.elim
  all_goals (simp at he)

theorem step_same {o : Oper} {v : AV} (hl : ∀ t, lenOk (τ t)) (he : effO P o = false) (hs : keeps (reads (ev τ) o.op) σ σ') (h : stepW P ops o τ σ fun v' σ'' => v' = v ∧ σ'' = σ) :
    stepW P ops o τ σ' fun v' σ'' => v' = v ∧ σ'' = σ' := by
  have hlo : ∀ x, lenOk (ev τ x) := by
    intro x
    cases x with
    | tmp t => exact hl t
    | const c => simp only [ev]; exact lenOk_of (g := ⟨0, [], fun _ => none, []⟩) (w := default) (absV_rel _ _ c)
    | global _ => trivial
    | func f => trivial
  have key : opW P (ev τ) o σ (fun v' σ'' => v' = v ∧ σ'' = σ) → opW P (ev τ) o σ' (fun v' σ'' => v' = v ∧ σ'' = σ') := by
    intro h
    have h0 : opW P (ev τ) o σ (fun v' _ => v' = v) := opW_mono (fun _ _ h => h.1) h
    obtain ⟨u, hu, hk⟩ := op_det hlo he (opW_free he hs h0)
    subst hu
    exact hk _ ⟨rfl, rfl⟩
  unfold stepW at h ⊢
  split at h
  · exact key h
  · split at h
    · exact h.elim
    · split at h
      · exact ⟨fun e => key (h.1 e), fun e => ⟨(h.2 e).1, rfl⟩⟩
      · exact ⟨h.1, rfl⟩
      · exact h.elim

/-- A region in one order; with each operation whether it may leave something behind; ks: the objects that have been read. -/
def seqE (P : Program) (ops : Array Oper) : List (Nat × Bool) → List Nat → Env → AST → (Env → AST → Prop) → Prop
  | [], ks, τ, σ, K => K τ σ
  | (i, true) :: r, ks, τ, σ, K => match gop ops i with
    | none => False
    | some o => stepW P ops o τ σ fun v σ' => keeps ks σ σ' ∧ seqE P ops r ks (τ.putO o.dst v) σ' K
  | (i, false) :: r, ks, τ, σ, K => match gop ops i with
    | none => False
    | some o => stepW P ops o τ σ fun v σ' => σ' = σ ∧ seqE P ops r (reads (ev τ) o.op ++ ks) (τ.putO o.dst v) σ' K

def flagsOk (P : Program) (ops : Array Oper) (l : List (Nat × Bool)) : Bool := l.all fun x => match ops[x.1]? with
  | none => false
  | some o => effO P o == x.2

def pastOkE (P : Program) (ops : Array Oper) (ks : List Nat) (past : List (Nat × Env × AV)) (σ : AST) : Prop :=
  ∀ x ∈ past, ∀ o, ops[x.1]? = some o → (∀ t, lenOk (x.2.1 t)) ∧ effO P o = false ∧ (∀ k ∈ reads (ev x.2.1) o.op, k ∈ ks) ∧ stepW P ops o x.2.1 σ fun v' σ'' => v' = x.2.2 ∧ σ'' = σ

theorem seqE_awpD : ∀ (l : List (Nat × Bool)) (ks : List Nat) (past : List (Nat × Env × AV)) (τ : Env) (σ : AST), flagsOk P ops l = true → pastOkE P ops ks past σ → (∀ t, lenOk (τ t)) → seqE P ops l ks τ σ KE → awpD P ops (l.map (·.1)) past τ σ KE
  | [], ks, past, τ, σ, hf, hp, hlen, h => h
  | (i, true) :: r, ks, past, τ, σ, hf, hp, hlen, h => by
    simp only [seqE] at h
    split at h
    · exact h.elim
    · rename_i o hk
      have hk : ops[i]? = some o := hk
      simp only [flagsOk, List.all_cons, hk, Bool.and_eq_true, beq_iff_eq] at hf
      simp only [List.map_cons, awpD, hk, hf.1, if_true]
      refine stepW_mono (fun v σ' hh => ?_) h
      have hp' : pastOkE P ops ks past σ' := fun x hx o ho => by
        obtain ⟨h1, h2, h3, h4⟩ := hp x hx o ho
        exact ⟨h1, h2, h3, step_same h1 h2 (fun k hk => hh.1 k (h3 k hk)) h4⟩
      exact ⟨fun x hx _ o ho => (hp' x hx o ho).2.2.2, fun hlv => seqE_awpD r ks past _ _ hf.2 hp' hlv hh.2⟩
  | (i, false) :: r, ks, past, τ, σ, hf, hp, hlen, h => by
    simp only [seqE] at h
    split at h
    · exact h.elim
    · rename_i o hk
      have hk : ops[i]? = some o := hk
      simp only [flagsOk, List.all_cons, hk, Bool.and_eq_true, beq_iff_eq] at hf
      simp only [List.map_cons, awpD, hk, hf.1, Bool.false_eq_true, if_false]
      obtain ⟨v, hv, hkk⟩ := stepW_det hlen hf.1 h
      refine hkk _ fun hlv => seqE_awpD r _ _ _ _ hf.2 ?_ hlv hv.2
      intro x hx o' ho'
      rcases List.mem_cons.1 hx with rfl | hx
      · dsimp only at ho' ⊢
        rw [hk] at ho'; cases ho'
        exact ⟨hlen, hf.1, fun k hk => List.mem_append_left _ hk, hkk _ ⟨rfl, rfl⟩⟩
      · obtain ⟨h1, h2, h3, h4⟩ := hp x hx o' ho'
        exact ⟨h1, h2, fun k hk => List.mem_append_right _ (h3 k hk), h4⟩

theorem awp_drawE {id : Nat} {ops : Array Oper} {Q : Exit → Env → AST → Prop} (ord : List (Nat × Bool)) (ho : (ordOk P ops (ord.map (·.1)) && flagsOk P ops ord) = true) (h : seqE P ops ord [] τ σ (Q .normal)) : awp P (.region id ops true) Q τ σ := by
  rw [Bool.and_eq_true] at ho
  exact awp_draw _ ho.1 fun hlen => seqE_awpD ord [] [] τ σ ho.2 (fun x hx => by simp at hx) hlen h

/-! ### As rules -/
def seqEt (P : Program) (ops : Array Oper) (o : Option Oper) (r : List (Nat × Bool)) (ks : List Nat) (τ : Env) (σ : AST) (K : Env → AST → Prop) : Prop := match o with
  | none => False
  | some o => stepW P ops o τ σ fun v σ' => keeps ks σ σ' ∧ seqE P ops r ks (τ.putO o.dst v) σ' K
def seqEf (P : Program) (ops : Array Oper) (o : Option Oper) (r : List (Nat × Bool)) (ks : List Nat) (τ : Env) (σ : AST) (K : Env → AST → Prop) : Prop := match o with
  | none => False
  | some o => stepW P ops o τ σ fun v σ' => σ' = σ ∧ seqE P ops r (reads (ev τ) o.op ++ ks) (τ.putO o.dst v) σ' K
variable {ks : List Nat}
theorem seqE_nil : seqE P ops [] ks τ σ KE = KE τ σ := nr rfl
theorem seqE_t {i : Nat} {r : List (Nat × Bool)} : seqE P ops ((i, true) :: r) ks τ σ KE = seqEt P ops (gop ops i) r ks τ σ KE := by simp only [seqE, seqEt]
theorem seqE_f {i : Nat} {r : List (Nat × Bool)} : seqE P ops ((i, false) :: r) ks τ σ KE = seqEf P ops (gop ops i) r ks τ σ KE := by simp only [seqE, seqEf]
theorem seqEt_some {o : Oper} {r : List (Nat × Bool)} : seqEt P ops (some o) r ks τ σ KE = stepW P ops o τ σ (@Lam ⟨fun v σ' => @Later ⟨keeps ks σ σ' ∧ seqE P ops r ks (τ.putO o.dst v) σ' KE⟩⟩) := nr rfl
theorem seqEf_some {o : Oper} {r : List (Nat × Bool)} : seqEf P ops (some o) r ks τ σ KE = stepW P ops o τ σ (@Lam ⟨fun v σ' => σ' = σ ∧ @Later ⟨seqE P ops r (reads (ev τ) o.op ++ ks) (τ.putO o.dst v) σ' KE⟩⟩) := nr rfl
theorem reads_load {ρ : Operand → AV} {t : TypeId} {x : Operand} : reads ρ (.load t x) = ptrO (ρ x) := rfl
theorem reads_fieldAddr {ρ : Operand → AV} {t : TypeId} {x : Operand} {i : Nat} : reads ρ (.fieldAddr t x i) = ptrO (ρ x) := rfl
theorem reads_indexAddr {ρ : Operand → AV} {t : TypeId} {x y : Operand} : reads ρ (.indexAddr t x y) = ptrO (ρ x) := rfl
theorem reads_move {ρ : Operand → AV} {x : Operand} : reads ρ (.move x) = [] := rfl
theorem reads_assign {ρ : Operand → AV} {x : Operand} : reads ρ (.assign x) = [] := rfl
theorem reads_index {ρ : Operand → AV} {t : TypeId} {x y : Operand} : reads ρ (.index t x y) = [] := rfl
theorem reads_convert {ρ : Operand → AV} {s d : TypeId} {x : Operand} : reads ρ (.convert s d x) = [] := rfl
theorem reads_binOp {ρ : Operand → AV} {op : BinOp} {t u : TypeId} {x y : Operand} : reads ρ (.binOp op t x y u) = [] := rfl
theorem reads_unOp {ρ : Operand → AV} {op : UnOp} {t : TypeId} {x : Operand} : reads ρ (.unOp op t x) = [] := rfl
theorem reads_extract {ρ : Operand → AV} {x : Operand} {i : Nat} : reads ρ (.extract x i) = [] := rfl
theorem reads_field {ρ : Operand → AV} {t : TypeId} {x : Operand} {i : Nat} : reads ρ (.field t x i) = [] := rfl
theorem reads_build {ρ : Operand → AV} {t : TypeId} {ps : Array (Nat × Operand)} : reads ρ (.build t ps) = [] := rfl
theorem reads_slice {ρ : Operand → AV} {t : TypeId} {x : Operand} {a b c : Option Operand} : reads ρ (.slice t x a b c) = [] := rfl
theorem reads_call {ρ : Operand → AV} {c : Call} : reads ρ (.call c) = [] := rfl
theorem ptrO_some {i : Nat} {p : List Nat} : ptrO (.ptr (some (i, p))) = [i] := rfl
theorem ptrO_eptr {v : AV} : ptrO (.eptr v) = [] := rfl
theorem ptrO_slice {tk : Tk} {xs : List AV} : ptrO (.slice tk xs) = [] := rfl
theorem keeps_nil : keeps [] σ σ' := fun _ h => by simp at h
theorem keeps_refl : keeps ks σ σ := fun _ _ => rfl
attribute [go_sem ↓] seqE_nil seqE_t seqE_f seqEt_some seqEf_some
attribute [go_sem] reads_load reads_fieldAddr reads_indexAddr reads_move reads_assign reads_index reads_convert reads_binOp reads_unOp reads_extract reads_field reads_build reads_slice reads_call ptrO_some ptrO_eptr ptrO_slice List.nil_append
end Go.Aff
