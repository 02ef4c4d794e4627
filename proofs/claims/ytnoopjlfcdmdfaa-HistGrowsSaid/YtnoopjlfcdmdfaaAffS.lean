/- Walking: the abstract wp by rewriting, head first. -/
import Derived.Test.YtnoopjlfcdmdfaaAffR
namespace Go.Aff
set_option linter.unusedVariables false
set_option linter.unusedSimpArgs false

variable {P : Program} {σ : AST} {τ : Env} {ops : Array Oper} {K : AV → AST → Prop} {KV : AV → Prop} {KE : Env → AST → Prop} {Q : Exit → Env → AST → Prop}

/-- A rewriting by this theorem keeps its proof. -/
theorem nr.{u} {α : Sort u} {a b : α} (h : a = b) : a = b := h

/-! ### Rest: what a rewriting must not enter yet -/
class Stop.{u} (α : Type u) where
  x : α
def Later [s : Stop Prop] : Prop := s.x
def Lam [s : Stop (AV → AST → Prop)] : AV → AST → Prop := s.x
def LamE [s : Stop (Env → AST → Prop)] : Env → AST → Prop := s.x
def LamS [s : Stop (AST → Prop)] : AST → Prop := s.x
def LamA {α : Type} [s : Stop (α → Prop)] : α → Prop := s.x
def At (K : AV → AST → Prop) (σ : AST) : AV → Prop := fun v => K v σ
def AtS (K : AV → AST → Prop) (v : AV) : AST → Prop := fun σ => K v σ
theorem lam_app {F : AV → AST → Prop} {v : AV} {σ : AST} : @Lam ⟨F⟩ v σ = F v σ := nr rfl
theorem lamE_app {F : Env → AST → Prop} {τ : Env} {σ : AST} : @LamE ⟨F⟩ τ σ = F τ σ := nr rfl
theorem lamA_app {α : Type} {F : α → Prop} {v : α} : @LamA _ ⟨F⟩ v = F v := nr rfl
theorem at_app {K : AV → AST → Prop} {v : AV} {σ : AST} : At K σ v = K v σ := nr rfl
theorem atS_app {K : AV → AST → Prop} {v : AV} {σ : AST} : AtS K v σ = K v σ := nr rfl
theorem later_intro {T : Prop} (h : T) : @Later ⟨T⟩ := h
theorem and_later {T : Prop} : (True ∧ @Later ⟨T⟩) = T := by simp [Later]
theorem arr_later {T : Prop} : (True → @Later ⟨T⟩) = T := by simp [Later]
theorem side_later {A T : Prop} (ha : A) (h : T) : A ∧ @Later ⟨T⟩ := ⟨ha, h⟩
theorem arr_intro {A T : Prop} (h : A → T) : A → @Later ⟨T⟩ := h

/-! ### Control -/
theorem awp_seq_k {a b : Code} (h : ∀ K : Env → AST → Prop, (∀ τ σ, awp P b Q τ σ → K τ σ) → awp P a (thenQ K Q) τ σ) : awp P (.seq a b) Q τ σ :=
  h _ fun _ _ h => h

theorem awp_region {id : Nat} (h : awpSeq P ops ops.toList τ σ (Q .normal)) : awp P (.region id ops false) Q τ σ := h
theorem awp_region_k {id : Nat} (h : awpSeq P ops ops.toList τ σ KE) : awp P (.region id ops false) (thenQ KE Q) τ σ := h
theorem awp_draw {id : Nat} (ord : List Nat) (ho : ordOk P ops ord = true) (h : (∀ t, lenOk (τ t)) → awpD P ops ord [] τ σ (Q .normal)) : awp P (.region id ops true) Q τ σ := ⟨ord, ho, h⟩
theorem awp_cond {c : Operand} {a b : Code} (h : boolW (ev τ c) (awp P a Q τ σ) (awp P b Q τ σ)) : awp P (.cond c a b) Q τ σ := h
theorem awp_block {id : Nat} {c : Code} (h : awp P c (blockQ id Q) τ σ) : awp P (.block id c) Q τ σ := h
theorem awp_skip (h : Q .normal τ σ) : awp P .skip Q τ σ := h
theorem awp_ret (h : Q .ret τ σ) : awp P .ret Q τ σ := h
theorem awp_exit {id : Nat} (h : Q (.exit id) τ σ) : awp P (.exit id) Q τ σ := h

/-! ### Types, told by functions -/
def isIntT (P : Program) (t : TypeId) : Bool := match P.underlying t with | some (.int _) => true | _ => false
def kindT (P : Program) (t : TypeId) : IntKind := match P.underlying t with | some (.int k) => k | _ => .i64
def isSliceT (P : Program) (t : TypeId) : Bool := match P.underlying t with | some (.slice _) => true | _ => false
def elemT (P : Program) (t : TypeId) : TypeId := match P.underlying t with | some (.slice e) => e | some (.array _ e) => e | _ => 0
def isStructT (P : Program) (t : TypeId) : Bool := match P.underlying t with | some (.struct _) => true | _ => false
theorem isIntT_iff {t : TypeId} (h : isIntT P t = true) : P.underlying t = some (.int (kindT P t)) := by
  unfold isIntT at h; unfold kindT; split at h <;> simp_all
theorem isSliceT_iff {t : TypeId} (h : isSliceT P t = true) : P.underlying t = some (.slice (elemT P t)) := by
  unfold isSliceT at h; unfold elemT; split at h <;> simp_all
theorem isStructT_iff {t : TypeId} (h : isStructT P t = true) : ∃ fs, P.underlying t = some (.struct fs) := by
  unfold isStructT at h; split at h <;> simp_all

/-! ### Rewriting, head first -/
theorem seq_nil : awpSeq P ops [] τ σ KE = KE τ σ := nr rfl
theorem seq_cons {o : Oper} {r : List Oper} : awpSeq P ops (o :: r) τ σ KE = stepW P ops o τ σ (@Lam ⟨fun v σ' => awpSeq P ops r (τ.putO o.dst v) σ' KE⟩) := nr rfl

theorem step_plain {dst : Option Nat} {op : Op} {t : TypeId} {pos : String} {after : Array Edge} : stepW P ops ⟨dst, op, t, pos, after, none⟩ τ σ K = opW P (ev τ) ⟨dst, op, t, pos, after, none⟩ σ K := nr rfl

def guardW (d : Option Nat) (τ : Env) (want : Bool) (T E : Prop) : Prop := match d with
  | none => False
  | some d => match τ d with
    | .bool b => (b = want → T) ∧ (b = !want → E)
    | .tuple [] => E
    | _ => False

def gdst (ops : Array Oper) (j : Nat) : Option Nat := (ops[j]?).bind (·.dst)
theorem gdst_zero {o : Oper} {l : List Oper} : gdst ⟨o :: l⟩ 0 = o.dst := nr rfl
theorem gdst_succ {o : Oper} {l : List Oper} {n : Nat} : gdst ⟨o :: l⟩ (n + 1) = gdst ⟨l⟩ n := by simp [gdst]
theorem step_guard {dst : Option Nat} {op : Op} {t : TypeId} {pos : String} {after : Array Edge} {j : Nat} {want : Bool} :
    stepW P ops ⟨dst, op, t, pos, after, some (j, want)⟩ τ σ K = guardW (gdst ops j) τ want (@Later ⟨opW P (ev τ) ⟨dst, op, t, pos, after, some (j, want)⟩ σ K⟩) (@Later ⟨K (.tuple []) σ⟩) := by
  unfold stepW guardW gdst Later; rfl

def guardV (v : AV) (want : Bool) (T E : Prop) : Prop := match v with
  | .bool b => (b = want → T) ∧ (b = !want → E)
  | .tuple [] => E
  | _ => False

theorem guardW_some {d : Nat} {want : Bool} {T E : Prop} : guardW (some d) τ want T E = guardV (τ d) want T E := nr rfl
theorem guardV_skip {want : Bool} {T E : Prop} : guardV (.tuple []) want T (@Later ⟨E⟩) = E := by simp [guardV, Later]
theorem guardV_tt {T E : Prop} : guardV (.bool true) true (@Later ⟨T⟩) E = T := by simp [guardV, Later]
theorem guardV_tf {T E : Prop} : guardV (.bool true) false T (@Later ⟨E⟩) = E := by simp [guardV, Later]
theorem guardV_ft {T E : Prop} : guardV (.bool false) true T (@Later ⟨E⟩) = E := by simp [guardV, Later]
theorem guardV_ff {T E : Prop} : guardV (.bool false) false (@Later ⟨T⟩) E = T := by simp [guardV, Later]

theorem boolW_t {T E : Prop} : boolW (.bool true) (@Later ⟨T⟩) E = T := by simp [boolW, Later]
theorem boolW_f {T E : Prop} : boolW (.bool false) T (@Later ⟨E⟩) = E := by simp [boolW, Later]

section
variable {dst : Option Nat} {ty : TypeId} {pos : String} {after : Array Edge} {gd : Option (Nat × Bool)} {ρ : Operand → AV}
theorem op_move {x : Operand} : opW P ρ ⟨dst, .move x, ty, pos, after, gd⟩ σ K = K (ρ x) σ := nr rfl
theorem op_assign {x : Operand} : opW P ρ ⟨dst, .assign x, ty, pos, after, gd⟩ σ K = K (ρ x) σ := nr rfl
theorem op_pick {c a b : Operand} : opW P ρ ⟨dst, .pick c a b, ty, pos, after, gd⟩ σ K = boolW (ρ c) (@Later ⟨K (ρ a) σ⟩) (@Later ⟨K (ρ b) σ⟩) := nr rfl
theorem op_alloc {e : TypeId} : opW P ρ ⟨dst, .alloc e, ty, pos, after, gd⟩ σ K = (ZeroOf P e (zeroA P 12 e) ∧ @Later ⟨K (.ptr (some (σ.objs.length, []))) (σ.push (.cells (zeroA P 12 e)))⟩) := nr rfl
theorem op_box {e : TypeId} {x : Operand} : opW P ρ ⟨dst, .box e x, ty, pos, after, gd⟩ σ K = ((ρ x).known = true ∧ @Later ⟨K (.ptr (some (σ.objs.length, []))) (σ.push (.cells (ρ x)))⟩) := nr rfl
theorem op_build {t : TypeId} {ps : Array (Nat × Operand)} : opW P ρ ⟨dst, .build t ps, ty, pos, after, gd⟩ σ K =
    (ZeroOf P t (zeroA P 12 t) ∧ (zeroA P 12 t).isAgg = true ∧ Built P t ∧ fillW P t (ps.toList.map fun p => (p.1, ρ p.2)) (zeroA P 12 t) (At K σ)) := nr rfl
theorem op_buildSlice {t n : Nat} {ps : Array (Nat × Operand)} : opW P ρ ⟨dst, .buildSlice t n ps, ty, pos, after, gd⟩ σ K = buildSliceW P t n (ps.toList.map fun p => (p.1, ρ p.2)) (At K σ) := nr rfl
theorem op_load {t : TypeId} {a : Operand} : opW P ρ ⟨dst, .load t a, ty, pos, after, gd⟩ σ K = loadW P σ t (ρ a) (At K σ) := nr rfl
theorem op_store {t : TypeId} {a x : Operand} : opW P ρ ⟨dst, .store t a x, ty, pos, after, gd⟩ σ K = storeW P σ t (ρ a) (ρ x) (AtS K .undef) := nr rfl
def nilCheckW (v : AV) (K : AV → Prop) : Prop := match v with
  | .ptr (some q) => K (.ptr (some q))
  | .eptr v => K (.eptr v)
  | .fn (.func f) a b => K (.fn (.func f) a b)
  | _ => False
theorem op_nilCheck {x : Operand} : opW P ρ ⟨dst, .nilCheck x, ty, pos, after, gd⟩ σ K = nilCheckW (ρ x) (At K σ) := nr rfl
theorem op_binOp {op : BinOp} {t yt : TypeId} {x y : Operand} : opW P ρ ⟨dst, .binOp op t x y yt, ty, pos, after, gd⟩ σ K = binW P op t (ρ x) (ρ y) (At K σ) := nr rfl
theorem op_unOp {op : UnOp} {t : TypeId} {x : Operand} : opW P ρ ⟨dst, .unOp op t x, ty, pos, after, gd⟩ σ K = unW op (ρ x) (At K σ) := nr rfl
theorem op_convert {s d : TypeId} {x : Operand} : opW P ρ ⟨dst, .convert s d x, ty, pos, after, gd⟩ σ K = convW P s d (ρ x) σ K := nr rfl
theorem op_makeInterface {t : TypeId} {x : Operand} : opW P ρ ⟨dst, .makeInterface t x, ty, pos, after, gd⟩ σ K = ((∃ d, P.underlying t = some d ∧ ∀ ms, d ≠ .interface ms) ∧ (ρ x).known = true ∧ @Later ⟨K (.iface t (ρ x)) σ⟩) := nr rfl
theorem op_makeFunc {f : Fn} {first cap : Array Operand} : opW P ρ ⟨dst, .makeFunc f first cap, ty, pos, after, gd⟩ σ K =
    ((∀ x ∈ first.toList ++ cap.toList, (ρ x).known = true) ∧ @Later ⟨K (.fn f (first.toList.map ρ) (cap.toList.map ρ)) σ⟩) := nr rfl
theorem op_slice {t : TypeId} {x : Operand} {lo hi mx : Option Operand} : opW P ρ ⟨dst, .slice t x lo hi mx, ty, pos, after, gd⟩ σ K = sliceW P t (ρ x) (lo.map ρ) (hi.map ρ) (mx.map ρ) (At K σ) := nr rfl
theorem op_fieldAddr {t : TypeId} {x : Operand} {i : Nat} (h : isStructT P t = true) : opW P ρ ⟨dst, .fieldAddr t x i, ty, pos, after, gd⟩ σ K = fieldAddrW P σ t (ρ x) i (At K σ) := by
  simp only [opW, isStructT_iff h, true_and]; rfl
theorem op_field {t : TypeId} {x : Operand} {i : Nat} (h : isStructT P t = true) : opW P ρ ⟨dst, .field t x i, ty, pos, after, gd⟩ σ K = fieldW P t (ρ x) i (At K σ) := by
  simp only [opW, isStructT_iff h, true_and]; rfl
theorem op_indexAddr {t : TypeId} {x i : Operand} : opW P ρ ⟨dst, .indexAddr t x i, ty, pos, after, gd⟩ σ K = indexAddrW P σ t (ρ x) (ρ i) (At K σ) := nr rfl
theorem op_index {t : TypeId} {x i : Operand} : opW P ρ ⟨dst, .index t x i, ty, pos, after, gd⟩ σ K = indexW P t (ρ x) (ρ i) (At K σ) := nr rfl
def extractW (v : AV) (i : Nat) (K : AV → Prop) : Prop := match v with
  | .tuple vs => match vs[i]? with
    | some v => K v
    | none => False
  | _ => False
theorem op_extract {x : Operand} {i : Nat} : opW P ρ ⟨dst, .extract x i, ty, pos, after, gd⟩ σ K = extractW (ρ x) i (At K σ) := nr rfl
theorem op_append {s x : Operand} {ts : Array TypeId} : opW P ρ ⟨dst, .call ⟨.builtin .append, #[s, x], ts⟩, ty, pos, after, gd⟩ σ K = appendW P ts (ρ s) (ρ x) σ K := nr rfl
theorem op_len {x : Operand} {ts : Array TypeId} : opW P ρ ⟨dst, .call ⟨.builtin .len, #[x], ts⟩, ty, pos, after, gd⟩ σ K = lenW P ts (ρ x) (At K σ) := nr rfl
theorem op_max {xs : Array Operand} {ts : Array TypeId} : opW P ρ ⟨dst, .call ⟨.builtin .max, xs, ts⟩, ty, pos, after, gd⟩ σ K = mmW true (xs.toList.map ρ) (At K σ) := nr rfl
theorem op_min {xs : Array Operand} {ts : Array TypeId} : opW P ρ ⟨dst, .call ⟨.builtin .min, xs, ts⟩, ty, pos, after, gd⟩ σ K = mmW false (xs.toList.map ρ) (At K σ) := nr rfl
def callV (P : Program) (f : AV) (args : List AV) (σ : AST) (K : AV → AST → Prop) : Prop := match f with
  | .fn (.func k) first cap => TCalls P k (first ++ args ++ cap) σ K
  | .fn (.yield l) [] [] => YCalls P l args σ K
  | _ => False
theorem op_call {f : Operand} {xs : Array Operand} {ts : Array TypeId} : opW P ρ ⟨dst, .call ⟨.value f, xs, ts⟩, ty, pos, after, gd⟩ σ K = callV P (ρ f) (xs.toList.map ρ) σ K := nr rfl
end

theorem callV_yield {l : Nat} {args : List AV} : callV P (.fn (.yield l) [] []) args σ K = YCalls P l args σ K := nr rfl
theorem callV_fn {k : FuncId} {first cap args : List AV} : callV P (.fn (.func k) first cap) args σ K = TCalls P k (first ++ args ++ cap) σ K := nr rfl


/-! ### Values of slots -/
theorem ev_tmp {t : Nat} : ev τ (.tmp t) = τ t := nr rfl
theorem ev_const {v : Value} : ev τ (.const v) = absV v := nr rfl
theorem ev_func {f : FuncId} : ev τ (.func f) = .fn (.func f) [] [] := nr rfl
theorem putO_some {d : Nat} {v : AV} : τ.putO (some d) v = τ.put d v := nr rfl
theorem putO_none {v : AV} : τ.putO none v = τ := nr rfl
theorem put_at {d t : Nat} {v : AV} : (τ.put d v) t = if t = d then v else τ t := nr rfl
theorem env0_at {args : List AV} {t : Nat} : env0 args t = args.getD t .undef := nr rfl
theorem absV_int {k : IntKind} {n : Int} : absV (.int k n) = .int k n := nr rfl
theorem absV_bool {b : Bool} : absV (.bool b) = .bool b := nr rfl
theorem absV_str {l : List UInt8} (h : l.length ≤ 1000000) : absV (.string ⟨l.toArray⟩) = .str l := by
  simp only [absV]; rw [if_pos (by unfold maxL; simpa using Nat.le_trans h (by decide))]
theorem absV_nilptr : absV (.pointer none) = .ptr none := nr rfl
theorem absV_nilslice : absV (.slice none 0 0) = .slice .full [] := nr rfl
theorem absV_nilmap : absV (.map none) = .mp none := nr rfl
theorem absV_nilfn : absV .nilFunc = .nilFn := nr rfl
theorem absV_niliface : absV .nilIface = .nilIface := nr rfl

end Go.Aff
