import Derived.Test.YtipnjeciaagabaaG1
import Derived.Laws.Small
import Derived.Laws.StructEq
import Derived.RangeFuncSeq

set_option linter.unusedSimpArgs false
set_option linter.unusedVariables false

/- The abstract state, what it says of a world, and what each operation does to it. -/
namespace Go.Aff
set_option linter.unusedVariables false
set_option linter.unusedSimpArgs false

inductive AObj where
  | cells (v : AV)
  | map (es : List (Nat × AV × AV)) (clock : Nat)
  | gone
  | pin (l : Nat) (o : Obj) (vs : List AV) (xs : List Value)

def AObj.live : AObj → Bool
  | .gone => false
  | _ => true

/-- Objects by number; owners: how long, and how many cells an element has. -/
structure AST where
  objs : List AObj
  toks : List (Nat × Nat)

def AST.push (σ : AST) (o : AObj) : AST := { σ with objs := σ.objs ++ [o] }
def AST.set (σ : AST) (i : Nat) (o : AObj) : AST := { σ with objs := σ.objs.set i o }
def AST.tok (σ : AST) (n es : Nat) : AST := { σ with toks := σ.toks ++ [(n, es)] }
def AST.setTok (σ : AST) (t n es : Nat) : AST := { σ with toks := σ.toks.set t (n, es) }

/-- An object is in its block. -/
def objIn (g : G) (w : World) (b : Nat) (sh : Shape) : AObj → Prop
  | .cells v => ∃ c e, w.heap[b]? = some (.cells c e) ∧ relC g w v c.toList ∧ v.shape = sh
  | .map es ck => ∃ me : Array MapEntry, w.heap[b]? = some (.map me ck) ∧ es.length = me.size ∧
      (∀ (i : Nat) e m, es[i]? = some e → me[i]? = some m → m.born = e.1 ∧ (relC g w e.2.1 m.key.cells.toList ∧ e.2.1.isAgg = vAgg m.key) ∧ (relC g w e.2.2 m.val.cells.toList ∧ e.2.2.isAgg = vAgg m.val)) ∧
      (∀ e ∈ es, e.1 < ck) ∧ (es.map (·.1)).Nodup
  | .gone => True
  | .pin l o vs xs => b = l ∧ w.heap[b]? = some o ∧ ∀ (i : Nat) v x, vs[i]? = some v → xs[i]? = some x → v = .undef ∨ (relC g w v x.cells.toList ∧ v.isAgg = vAgg x)

structure Inv (g : G) (σ : AST) (w : World) : Prop where
  base : g.base ≤ w.heap.size
  nobj : σ.objs.length = g.objs.length
  obj : ∀ (i : Nat) o, σ.objs[i]? = some o → o.live = true → ∃ b sh, g.objs[i]? = some (b, sh) ∧ g.base ≤ b ∧ g.lim b = none ∧ objIn g w b sh o
  inj : ∀ (i j : Nat) o o' b sh sh', σ.objs[i]? = some o → σ.objs[j]? = some o' → o.live = true → o'.live = true → g.objs[i]? = some (b, sh) → g.objs[j]? = some (b, sh') → i = j
  rows : ∀ b L, g.lim b = some L → g.base ≤ b ∧ ∃ c e fr, w.heap[b]? = some (.cells c e fr) ∧ L ≤ c.size ∧ (fr.1 = fr.2 ∨ c.size ≤ fr.1)
  ntok : σ.toks.length = g.toks.length
  tok : ∀ (t : Nat) e, g.toks[t]? = some e → σ.toks[t]? = some (e.len, e.es) ∧ e.len ≤ e.cap ∧ e.cap ≤ maxL ∧ (e.a = none → e.cap = 0) ∧
    ∀ b o, e.a = some (b, o) → e.len < e.cap → g.lim b = some (o + e.len * e.es) ∧
      ∃ c el fr, w.heap[b]? = some (.cells c el fr) ∧ o + e.cap * e.es ≤ c.size ∧ (fr.1 = fr.2 ∨ c.size ≤ fr.1)
  tinj : ∀ (t u : Nat) e e' b o o', g.toks[t]? = some e → g.toks[u]? = some e' → e.a = some (b, o) → e'.a = some (b, o') → e.len < e.cap → e'.len < e'.cap → t = u

/-! ### Operands -/

def absV : Value → AV
  | .bool b => .bool b
  | .int k n => .int k n
  | .string s => if s.data.size ≤ maxL then .str s.data.toList else .undef
  | .pointer none => .ptr none
  | .slice none 0 0 => .slice .full []
  | .map none => .mp none
  | .nilFunc => .nilFn
  | .nilIface => .nilIface
  | _ => .undef

abbrev Env := Nat → AV

def Env.put (τ : Env) (d : Nat) (v : AV) : Env := fun t => if t = d then v else τ t

def Env.putO (τ : Env) : Option Nat → AV → Env
  | some d, v => τ.put d v
  | none, _ => τ

def ev (τ : Env) : Operand → AV
  | .tmp t => τ t
  | .const v => absV v
  | .global _ => .undef
  | .func f => .fn (.func f) [] []

def relE (g : G) (w : World) (τ : Env) (tmps : Array Value) : Prop := ∀ t, relV g w (τ t) (tmps.getD t Go.undef)

theorem relC_nil (g : G) (w : World) : relC g w (.slice .full []) [.slice none 0 0] := by
  simp only [relC]
  exact ⟨none, none, 0, 0, [], rfl, .inl rfl, by simp [relEs], Nat.le_refl _, by decide, fun _ => rfl, fun b o h => by simp at h, rfl⟩

theorem absV_rel (g : G) (w : World) (v : Value) : relV g w (absV v) v := by
  have mk : ∀ {a : AV} {v : Value}, relC g w a v.cells.toList → a.isAgg = vAgg v → relV g w a v := fun h1 h2 => .inr (.inr ⟨h1, h2⟩)
  unfold absV
  split
  · exact mk (by simp [relC, Value.cells]) rfl
  · exact mk (by simp [relC, Value.cells]) rfl
  · split
    · rename_i s h
      exact mk (by simp only [relC, Value.cells]; exact ⟨trivial, by simpa using h⟩) rfl
    · exact .inl rfl
  · exact mk (by simp [relC, Value.cells]) rfl
  · exact mk (relC_nil g w) rfl
  · exact mk (by simp [relC, Value.cells]) rfl
  · exact mk (by simp [relC, Value.cells]) rfl
  · exact mk (by simp [relC, Value.cells]) rfl
  · exact .inl rfl

theorem ev_rel {g : G} {w : World} {τ : Env} {a : Act} (h : relE g w τ a.tmps) (x : Operand) : relV g w (ev τ x) (a.eval x) := by
  cases x with
  | tmp t => exact h t
  | const v => exact absV_rel g w v
  | global _ => exact .inl rfl
  | func f => refine .inr (.inr ⟨?_, rfl⟩); simp only [ev, Act.eval, relC, Value.cells]; exact ⟨#[], #[], rfl, by simp [relVs], by simp [relVs]⟩

theorem relE_mono {g g' : G} {w w' : World} (h : Ev g w g' w') {τ : Env} {tmps : Array Value} (hr : relE g w τ tmps) : relE g' w' τ tmps := fun t => relV_mono h (hr t)

theorem relE_put {g : G} {w : World} {τ : Env} {a : Act} (h : relE g w τ a.tmps) {d : Option Nat} (hd : ∀ k, d = some k → k < a.tmps.size) {v : AV} {x : Value} (hv : relV g w v x) :
    relE g w (τ.putO d v) (a.put d x).tmps := by
  cases d with
  | none => exact h
  | some k =>
    intro t
    have hk := hd k rfl
    simp only [Env.putO, Env.put, Act.put]
    by_cases e : t = k
    · subst e; simp [Array.getD, hk, hv]
    · have h1 := h t
      simp only [if_neg e]
      have : (a.tmps.setIfInBounds k x).getD t Go.undef = a.tmps.getD t Go.undef := by
        simp only [Array.getD, Array.size_setIfInBounds]
        split
        · rename_i ht
          simp only [Array.getElem_setIfInBounds ht, Array.getInternal_eq_getElem]
          rw [if_neg (fun h => e h.symm)]
        · rfl
      rw [this]; exact h1


/-! ### Calls -/

def FnOk (P : Program) (f : FuncId) : Prop := ∃ fn, P.funcs[f]? = some fn ∧ (fn.name == "runtime.NumGoroutine") = false ∧ fn.body.isNone = false

def relA (g : G) (w : World) (args : List AV) (xs : List Value) : Prop :=
  args.length = xs.length ∧ ∀ (i : Nat) v x, args[i]? = some v → xs[i]? = some x → relV g w v x

/-- What a call does: it returns; the state behind it, and the result, are as K says. -/
def TCalls (P : Program) (f : FuncId) (args : List AV) (σ : AST) (K : AV → AST → Prop) : Prop :=
  FnOk P f ∧ ∀ (g : G) (w : World) (xs : Array Value), Inv g σ w → relA g w args xs.toList →
    Calls P f xs w fun e w' => ∃ x g' v σ', e = .returned x ∧ Ev g w g' w' ∧ Inv g' σ' w' ∧ relV g' w' v x ∧ K v σ'

theorem TCalls.mono {P : Program} {f : FuncId} {args : List AV} {σ : AST} {K K' : AV → AST → Prop} (h : TCalls P f args σ K) (hk : ∀ v σ', K v σ' → K' v σ') : TCalls P f args σ K' :=
  ⟨h.1, fun g w xs hI hr => (h.2 g w xs hI hr).mono fun e w' ⟨x, g', v, σ', he, h1, h2, h3, h4⟩ => ⟨x, g', v, σ', he, h1, h2, h3, hk _ _ h4⟩⟩

/-- What a call of yield does: a round of the loop. -/
def YCalls (P : Program) (l : Nat) (args : List AV) (σ : AST) (K : AV → AST → Prop) : Prop :=
  ∀ (g : G) (w : World) (xs : Array Value), Inv g σ w → relA g w args xs.toList →
    YieldAt Fence.wide 0 P l xs w fun e w' => ∃ x g' v σ', e = .returned x ∧ Ev g w g' w' ∧ Inv g' σ' w' ∧ relV g' w' v x ∧ K v σ'

theorem YCalls.mono {P : Program} {l : Nat} {args : List AV} {σ : AST} {K K' : AV → AST → Prop} (h : YCalls P l args σ K) (hk : ∀ v σ', K v σ' → K' v σ') : YCalls P l args σ K' :=
  fun g w xs hI hr => by
    obtain ⟨fn, tmps, assign, body, hy, hR⟩ := h g w xs hI hr
    exact ⟨fn, tmps, assign, body, hy, hR.mono fun e w' ⟨x, g', v, σ', he, h1, h2, h3, h4⟩ => ⟨x, g', v, σ', he, h1, h2, h3, hk _ _ h4⟩⟩

/-! ### Types -/

def aggT (P : Program) (t : TypeId) : Option Bool :=
  (P.underlying t).map fun | .struct _ | .array _ _ => true | _ => false

/-- A variable of type t holds such a value. -/
def fits (P : Program) (t : TypeId) (v : AV) : Prop := aggT P t = some v.isAgg ∧ P.cellsOf t = v.size

def placeOf (P : Program) (t : TypeId) (i : Nat) : Option (Nat × TypeId) :=
  match P.underlying t with
  | some (.struct fs) => (fs[i]?).map fun f => (f.offset, f.type)
  | some (.array n e) => if i < n then some (i * P.cellsOf e, e) else none
  | _ => none

/-- Part i of a value of type t is v. -/
def partIs (P : Program) (t : TypeId) (ps : List AV) (i : Nat) (v : AV) : Prop :=
  ∃ T, placeOf P t i = some (AV.sizes (ps.take i), T) ∧ fits P T v

def isU8 (P : Program) (e : TypeId) : Bool := match P.underlying e with | some (.int .u8) => true | _ => false

def zeroA (P : Program) : Nat → TypeId → AV
  | 0, _ => .undef
  | n + 1, t => match P.underlying t with
    | some .bool => .bool false
    | some (.int k) => .int k 0
    | some .string => .str []
    | some (.pointer _) => .ptr none
    | some (.slice _) => .slice .full []
    | some (.map _ _) => .mp none
    | some (.func _ _ _) => .nilFn
    | some (.interface _) => .nilIface
    | some (.struct fs) => .agg (fs.toList.map fun f => zeroA P n f.type)
    | some (.array k e) => if k = 32 ∧ isU8 P e = true then .dig ⟨List.replicate 32 0, by simp⟩ else .agg (List.replicate k (zeroA P n e))
    | _ => .undef

mutual
/-- The cells of a value without memory. -/
def conc : AV → Option (List Value)
  | .bool b => some [.bool b]
  | .int k n => some [.int k n]
  | .str s => if s.length ≤ maxL then some [.string ⟨s.toArray⟩] else none
  | .ptr none => some [.pointer none]
  | .slice .full [] => some [.slice none 0 0]
  | .mp none => some [.map none]
  | .nilFn => some [.nilFunc]
  | .nilIface => some [.nilIface]
  | .dig d => some (d.l.map fun b => .int .u8 b.toNat)
  | .agg ps => concs ps
  | _ => none
def concs : List AV → Option (List Value)
  | [] => some []
  | p :: ps => match conc p, concs ps with
    | some a, some b => some (a ++ b)
    | _, _ => none
end

/-- v is the zero value of type t. -/
def ZeroOf (P : Program) (t : TypeId) (v : AV) : Prop :=
  ∃ i z, P.info? t = some i ∧ i.zero = some z ∧ conc v = some z.cells.toList ∧ v.isAgg = vAgg z ∧ i.size = v.size

mutual
theorem conc_rel (g : G) (w : World) : ∀ {v : AV} {cs : List Value}, conc v = some cs → relC g w v cs
  | .bool _, cs, h | .int _ _, cs, h | .nilFn, cs, h | .nilIface, cs, h | .ptr none, cs, h | .mp none, cs, h | .dig _, cs, h => by
    simp only [conc, Option.some.injEq] at h; subst h; simp only [relC]
  | .str s, cs, h => by
    simp only [conc] at h; split at h
    · rename_i hl; cases h; simp only [relC]; exact ⟨trivial, hl⟩
    · cases h
  | .slice .full [], cs, h => by
    simp only [conc, Option.some.injEq] at h; subst h; exact relC_nil g w
  | .agg ps, cs, h => by simp only [conc] at h; simp only [relC]; exact concs_rel g w h
  | .undef, cs, h | .ptr (some _), cs, h | .slice .none _, cs, h | .slice (.own _) _, cs, h | .slice .full (_ :: _), cs, h | .lit _, cs, h | .eptr _, cs, h | .mp (some _), cs, h | .fn _ _ _, cs, h | .tuple _, cs, h | .iface _ _, cs, h => by
    simp [conc] at h
theorem concs_rel (g : G) (w : World) : ∀ {ps : List AV} {cs : List Value}, concs ps = some cs → relPs g w ps cs
  | [], cs, h => by simp only [concs, Option.some.injEq] at h; subst h; simp [relPs]
  | p :: ps, cs, h => by
    simp only [concs] at h
    split at h
    · rename_i a b ha hb; cases h; simp only [relPs]; exact ⟨a, b, rfl, conc_rel g w ha, concs_rel g w hb⟩
    · cases h
end

def AV.known : AV → Bool
  | .undef | .tuple _ => false
  | _ => true

/-! ### What operations do -/

/-- A store at a place is one that the value can take. -/
def setOk : AV → List Nat → AV → Prop
  | _, [], _ => True
  | .agg ps, i :: p, x => ∀ v, ps[i]? = some v → setOk v p x
  | .dig _, [_], .int k n => k = .u8 ∧ 0 ≤ n ∧ n < 256
  | _, _ :: _, _ => False



def boolW (v : AV) (T E : Prop) : Prop := match v with
  | .bool b => (b = true → T) ∧ (b = false → E)
  | _ => False

def loadW (P : Program) (σ : AST) (t : TypeId) (a : AV) (K : AV → Prop) : Prop := match a with
  | .ptr (some (i, p)) => match σ.objs[i]? with
    | some (.cells v) => match v.at p with
      | some x => fits P t x ∧ K x
      | none => False
    | _ => False
  | .eptr v => fits P t v ∧ K v
  | _ => False

def storeW (P : Program) (σ : AST) (t : TypeId) (a x : AV) (K : AST → Prop) : Prop := match a with
  | .ptr (some (i, p)) => match σ.objs[i]? with
    | some (.cells v) => match v.at p with
      | some u => fits P t x ∧ x.shape = u.shape ∧ x.known = true ∧ setOk v p x ∧ K (σ.set i (.cells (v.setAt p x)))
      | none => False
    | _ => False
  | _ => False

def fieldAddrW (P : Program) (σ : AST) (t : TypeId) (a : AV) (i : Nat) (K : AV → Prop) : Prop := match a with
  | .ptr (some (j, p)) => match σ.objs[j]? with
    | some (.cells v) => match v.at p with
      | some (.agg ps) => match ps[i]? with
        | some x => partIs P t ps i x ∧ 0 < x.size ∧ K (.ptr (some (j, p ++ [i])))
        | none => False
      | _ => False
    | _ => False
  | .eptr (.agg ps) => match ps[i]? with
    | some x => partIs P t ps i x ∧ 0 < x.size ∧ K (.eptr x)
    | none => False
  | _ => False

def fieldW (P : Program) (t : TypeId) (a : AV) (i : Nat) (K : AV → Prop) : Prop := match a with
  | .agg ps => match ps[i]? with
    | some x => partIs P t ps i x ∧ K x
    | none => False
  | _ => False

def u8s (l : List UInt8) : List AV := l.map fun b => .int .u8 b.toNat

def nthW {α : Type} (l : List α) (n : Int) (K : α → Prop) : Prop := 0 ≤ n ∧ n < l.length ∧ ∀ x, l[n.toNat]? = some x → K x

def indexW (P : Program) (t : TypeId) (a i : AV) (K : AV → Prop) : Prop := match i with
  | .int _ n => match a with
    | .str s => P.underlying t = some .string ∧ nthW s n fun b => K (.int .u8 b.toNat)
    | .dig d => (∃ e, P.underlying t = some (.array 32 e) ∧ fits P e (.int .u8 0)) ∧ nthW d.l n fun b => K (.int .u8 b.toNat)
    | .agg ps => nthW ps n fun x => partIs P t ps n.toNat x ∧ (∃ e, P.underlying t = some (.array ps.length e)) ∧ K x
    | _ => False
  | _ => False

def indexAddrW (P : Program) (σ : AST) (t : TypeId) (a i : AV) (K : AV → Prop) : Prop := match i with
  | .int _ n => match a with
    | .slice _ xs => ∃ e, P.underlying t = some (.slice e) ∧ nthW xs n fun x => fits P e x ∧ 0 < x.size ∧ K (.eptr x)
    | .ptr (some (j, p)) => match σ.objs[j]? with
      | some (.cells v) => match v.at p with
        | some (.agg ps) => nthW ps n fun x => partIs P t ps n.toNat x ∧ (∃ e, P.underlying t = some (.array ps.length e)) ∧ K (.ptr (some (j, p ++ [n.toNat])))
        | some (.dig d) => nthW d.l n fun x => (∃ e, P.underlying t = some (.array 32 e) ∧ fits P e (.int .u8 0)) ∧ K (.ptr (some (j, p ++ [n.toNat])))
        | _ => False
      | _ => False
    | .eptr (.agg ps) => nthW ps n fun x => partIs P t ps n.toNat x ∧ (∃ e, P.underlying t = some (.array ps.length e)) ∧ K (.eptr x)
    | .arr j p m => match σ.objs[j]? with
      | some (.cells v) => match v.at p with
        | some (.agg ps) => ∃ e, P.underlying t = some (.slice e) ∧ m ≤ ps.length ∧ AV.sizes (ps.take n.toNat) = n.toNat * P.cellsOf e ∧ nthW (ps.take m) n fun x => fits P e x ∧ K (.ptr (some (j, p ++ [n.toNat])))
        | _ => False
      | _ => False
    | _ => False
  | _ => False

/-- All parts of a type are types. -/
def Built (P : Program) (t : TypeId) : Prop := match P.underlying t with
  | some (.struct fs) => fs.toList.all (fun f => (P.info? f.type).isSome) = true
  | some (.array _ e) => (P.info? e).isSome = true
  | _ => False

/-- Parts are put into a value, one behind the other. -/
def fillW (P : Program) (t : TypeId) : List (Nat × AV) → AV → (AV → Prop) → Prop
  | [], v, K => K v
  | (i, x) :: r, .agg ps, K => ∃ u, ps[i]? = some u ∧ partIs P t ps i x ∧ u.shape = x.shape ∧ x.known = true ∧ fillW P t r (.agg (ps.set i x)) K
  | (i, .int .u8 n) :: r, .dig d, K => (∃ e, P.underlying t = some (.array 32 e) ∧ fits P e (.int .u8 0)) ∧ i < 32 ∧ 0 ≤ n ∧ n < 256 ∧ fillW P t r (.dig (d.set i n)) K
  | _, _, _ => False

/-- The parts of a slice's literal: all of them, in order. -/
def buildSliceW (P : Program) (t : TypeId) (len : Nat) (parts : List (Nat × AV)) (K : AV → Prop) : Prop :=
  ∃ e, P.underlying t = some (.slice e) ∧ parts.map (·.1) = List.range len ∧ len * P.cellsOf e ≤ 16777216 ∧ (∀ v ∈ parts.map (·.2), fits P e v ∧ v.known = true) ∧ (∃ z, ZeroOf P e z) ∧ 0 < P.cellsOf e ∧
    (K (.slice .full (parts.map (·.2))) ∨ 0 < len ∧ K (.slice .lit (parts.map (·.2))))

def intW (op : BinOp) (k : IntKind) (a b : Int) (K : AV → Prop) : Prop := match op with
  | .add => K (.int k (k.wrap (a + b)))
  | .sub => K (.int k (k.wrap (a - b)))
  | .mul => K (.int k (k.wrap (a * b)))
  | .quo => b ≠ 0 ∧ K (.int k (k.wrap (a.tdiv b)))
  | .rem => b ≠ 0 ∧ K (.int k (a.tmod b))
  | .eql => K (.bool (a == b))
  | .neq => K (.bool (a != b))
  | .lss => K (.bool (a < b))
  | .leq => K (.bool (a ≤ b))
  | .gtr => K (.bool (a > b))
  | .geq => K (.bool (a ≥ b))
  | _ => False

def strW (op : BinOp) (a b : List UInt8) (K : AV → Prop) : Prop := match op with
  | .add => a.length + b.length ≤ maxL ∧ K (.str (a ++ b))
  | .eql => K (.bool (a == b))
  | .neq => K (.bool !(a == b))
  | .lss => K (.bool (Op.bytesLess a b))
  | .leq => K (.bool (Op.bytesLess a b || a == b))
  | .gtr => K (.bool !(Op.bytesLess a b || a == b))
  | .geq => K (.bool !(Op.bytesLess a b))
  | _ => False

def isI64 (P : Program) (e : TypeId) : Bool := match P.underlying e with | some (.int .i64) => true | _ => false
/-- Whole numbers, all of them. -/
def i64s : List AV → Option (List Int)
  | [] => some []
  | .int .i64 n :: r => (i64s r).map (n :: ·)
  | _ :: _ => none
def eqI (xs ys : List AV) : Option Bool := match i64s xs, i64s ys with
  | some a, some b => some (a == b)
  | _, _ => none
mutual
/-- Are two values of a type the same? none: not told. -/
def eqA (P : Program) : Nat → TypeId → AV → AV → Option Bool
  | 0, _, _, _ => none
  | n + 1, t, x, y => match P.underlying t, x, y with
    | some .bool, .bool a, .bool b => some (a == b)
    | some (.int _), .int k a, .int k' b => if k = k' then some (a == b) else none
    | some .string, .str a, .str b => some (a == b)
    | some (.array 32 e), .dig a, .dig b => if isU8 P e = true ∧ P.cellsOf e = 1 ∧ 3 ≤ n then some (a.l == b.l) else none
    | some (.array k e), .agg xs, .agg ys => if isI64 P e = true ∧ P.cellsOf e = 1 ∧ 3 ≤ n ∧ xs.length = k ∧ ys.length = k then eqI xs ys else none
    | some (.struct fs), .agg xs, .agg ys => if P.stoodInHeld t = false then eqAs P n t 0 fs.toList xs ys xs ys else none
    | some (.pointer _), .ptr none, .ptr b => some b.isNone
    | some (.pointer _), .ptr a, .ptr none => some a.isNone
    | _, _, _ => none
def eqAs (P : Program) : Nat → TypeId → Nat → List Field → List AV → List AV → List AV → List AV → Option Bool
  | 0, _, _, _, _, _, _, _ => none
  | _ + 1, _, _, [], _, _, _, _ => some true
  | n + 1, t, i, f :: fs, x :: xs, y :: ys, ax, ay =>
    if f.name ≠ "_" ∧ f.offset = AV.sizes (ax.take i) ∧ f.offset = AV.sizes (ay.take i) ∧ aggT P f.type = some x.isAgg ∧ P.cellsOf f.type = x.size ∧ aggT P f.type = some y.isAgg ∧ P.cellsOf f.type = y.size then
      match eqA P n f.type x y with
      | some true => eqAs P n t (i + 1) fs xs ys ax ay
      | some false => some false
      | none => none
    else none
  | _, _, _, _, _, _, _, _ => none
end
def eqW (op : BinOp) (r : Option Bool) (K : AV → Prop) : Prop := match op with
  | .eql => ∃ b, r = some b ∧ K (.bool b)
  | .neq => ∃ b, r = some b ∧ K (.bool !b)
  | _ => False

/-- An operator of two operands. -/
def binW (P : Program) (op : BinOp) (t : TypeId) (x y : AV) (K : AV → Prop) : Prop := match x, y with
  | .int k a, .int k' b => k = k' ∧ intW op k a b K
  | .str a, .str b => strW op a b K
  | .bool a, .bool b => eqW op (eqA P 40 t (.bool a) (.bool b)) K
  | .ptr a, .ptr b => eqW op (eqA P 40 t (.ptr a) (.ptr b)) K
  | .agg a, .agg b => P.eqGuardType P.depth t = false ∧ eqW op (eqA P 40 t (.agg a) (.agg b)) K
  | .dig a, .dig b => P.eqGuardType P.depth t = false ∧ eqW op (eqA P 40 t (.dig a) (.dig b)) K
  | _, _ => False

def unW (op : UnOp) (x : AV) (K : AV → Prop) : Prop := match op, x with
  | .not, .bool b => K (.bool !b)
  | .neg, .int k n => K (.int k (k.wrap (0 - n)))
  | _, _ => False

def unU8 : List AV → Option (List UInt8)
  | [] => some []
  | .int .u8 n :: r => (unU8 r).map (UInt8.ofNat n.toNat :: ·)
  | _ :: _ => none

def convW (P : Program) (s d : TypeId) (x : AV) (σ : AST) (K : AV → AST → Prop) : Prop := match x with
  | .int _ n => ∃ k, P.underlying d = some (.int k) ∧ (∃ u, P.underlying s = some u) ∧ K (.int k (k.wrap n)) σ
  | .str l => (P.underlying d = some .string ∧ P.underlying s = some .string ∧ K (.str l) σ) ∨
      (∃ e, P.underlying d = some (.slice e) ∧ P.underlying e = some (.int .u8) ∧ P.underlying s = some .string ∧ K (.slice (.own σ.toks.length) (u8s l)) (σ.tok l.length 1))
  | .slice tk xs => (∃ e l, P.underlying s = some (.slice e) ∧ P.underlying e = some (.int .u8) ∧ P.underlying d = some .string ∧ unU8 xs = some l ∧ K (.str l) σ) ∨
      (tk = .lit ∧ s = d ∧ ∃ e, P.underlying s = some (.slice e) ∧ P.underlying e = some (.int .u8) ∧ K (.slice .full xs) σ)
  | .arr i p n => match σ.objs[i]? with
    | some (.cells v) => match v.at p with
      | some (.dig dg) => n = 32 ∧ ∃ e, P.underlying s = some (.slice e) ∧ P.underlying e = some (.int .u8) ∧ P.underlying d = some .string ∧ K (.str dg.l) σ
      | _ => False
    | _ => False
  | _ => False

/-- copy: thirty-two bytes of a text into a digest in memory. -/
def copyW (P : Program) (ts : Array TypeId) (dst src : AV) (σ : AST) (K : AV → AST → Prop) : Prop := ∃ t e, ts[0]? = some t ∧ P.underlying t = some (.slice e) ∧ P.cellsOf e = 1 ∧ (∃ u, P.underlying e = some u) ∧ match dst, src with
  | .arr i p n, .str l => match σ.objs[i]? with
    | some (.cells v) => match v.at p with
      | some (.dig dg) => n = 32 ∧ ∃ h : l.length = 32, setOk v p (.dig ⟨l, h⟩) ∧ K (.int .i64 32) (σ.set i (.cells (v.setAt p (.dig ⟨l, h⟩))))
      | _ => False
    | _ => False
  | _, _ => False

theorem copyW_mono {P : Program} {ts : Array TypeId} {a b : AV} {σ : AST} {K K' : AV → AST → Prop} (hk : ∀ v σ', K v σ' → K' v σ') (h : copyW P ts a b σ K) : copyW P ts a b σ K' := by
  obtain ⟨t, e, h1, h2, h3, h4, h⟩ := h
  refine ⟨t, e, h1, h2, h3, h4, ?_⟩
  split at h
  · rename_i i p n l
    split at h
    · rename_i v hobj
      split at h
      · rename_i dg hat
        obtain ⟨h5, h6, h7, h8⟩ := h
        exact ⟨h5, h6, h7, hk _ _ h8⟩
      · exact h.elim
    · exact h.elim
  · exact h.elim
/-- A bound of a slice's expression. -/
def bndW (v : Option AV) (dflt : Nat) (K : Nat → Prop) : Prop := match v with
  | none => K dflt
  | some (.int _ n) => 0 ≤ n ∧ K n.toNat
  | _ => False

def subTk : Tk → Bool → Tk
  | .full, true => .full
  | _, _ => .none

/-- A pointer of this type, or to a variable of this type, points to an array. -/
def arrOfT (P : Program) (t e : TypeId) (n : Nat) : Prop := (∃ a, P.underlying t = some (.pointer a) ∧ P.underlying a = some (.array n e)) ∨ P.underlying t = some (.array n e)
def sliceW (P : Program) (t : TypeId) (x : AV) (lo hi mx : Option AV) (K : AV → Prop) : Prop := match x with
  | .str s => P.underlying t = some .string ∧ mx.isNone = true ∧ bndW lo 0 fun l => bndW hi s.length fun h => l ≤ h ∧ h ≤ s.length ∧ K (.str ((s.take h).drop l))
  | .slice tk xs => ∃ e, P.underlying t = some (.slice e) ∧ (∀ v ∈ xs, v.size = P.cellsOf e) ∧ (∃ d, P.underlying e = some d) ∧ bndW lo 0 fun l => bndW hi xs.length fun h => l ≤ h ∧ h ≤ xs.length ∧
      match mx with
      | none => K (.slice (subTk tk (h == xs.length)) ((xs.take h).drop l))
      | some (.int _ m) => m = h ∧ hi.isSome = true ∧ K (.slice .full ((xs.take h).drop l))
      | _ => False
  | .ptr (some (i, p)) => ∃ e n, arrOfT P t e n ∧ n ≤ maxL ∧ (∃ d, P.underlying e = some d) ∧ mx.isNone = true ∧ lo.isNone = true ∧ bndW hi n fun h => h ≤ n ∧ K (.arr i p h)
  | _ => False

def elemsOf (P : Program) (t : TypeId) : AV → Option (List AV)
  | .slice _ ys => match P.underlying t with
    | some (.slice _) => some ys
    | _ => none
  | .str s => match P.underlying t with
    | some .string => some (u8s s)
    | _ => none
  | _ => none

/-- append. -/
def appendW0 (P : Program) (ts : Array TypeId) (s x : AV) (σ : AST) (K : AV → AST → Prop) : Prop :=
  ∃ t u e xs tk ys, ts[0]? = some t ∧ ts[1]? = some u ∧ P.underlying t = some (.slice e) ∧ s = .slice tk xs ∧ elemsOf P u x = some ys ∧ (∃ z, ZeroOf P e z) ∧ (∀ v ∈ ys, v.size = P.cellsOf e) ∧
    (xs.length + ys.length) * P.bytesOf e ≤ 140737488355328 ∧ xs.length + ys.length ≤ maxL ∧
    match tk with
    | .full => (∀ v ∈ xs, v.size = P.cellsOf e) ∧ K (.slice (.own σ.toks.length) (xs ++ ys)) (σ.tok (xs.length + ys.length) (P.cellsOf e))
    | .own k => σ.toks[k]? = some (xs.length, P.cellsOf e) ∧ K (.slice (.own k) (xs ++ ys)) (σ.setTok k (xs.length + ys.length) (P.cellsOf e))
    | .none | .lit => False

/-- append of one int to a slice whose row is held as it stands. -/
def appendL (P : Program) (ts : Array TypeId) (s x : AV) (σ : AST) (K : AV → AST → Prop) : Prop :=
  ∃ t u e y, ts[0]? = some t ∧ ts[1]? = some u ∧ P.underlying t = some (.slice e) ∧ elemsOf P u x = some [.int .i64 y] ∧ (∃ z, ZeroOf P e z ∧ z.size = 1) ∧ match s with
    | .slice .full xs => xs = [] ∧ P.bytesOf e ≤ 140737488355328 ∧ ∀ b c cs, cs[0]? = some (.int .i64 y) → cs.size = c → 1 ≤ c → c ≤ maxL →
        K (.lit (.slice (some ⟨b, 0, none⟩) 1 c)) (σ.push (.pin b (.cells cs e) [] []))
    | .lit (.slice (some a) n c) => ∃ i cs, a.off = 0 ∧ a.spot = none ∧ σ.objs[i]? = some (.pin a.block (.cells cs e) [] []) ∧ cs.size = c ∧ n ≤ c ∧ c ≤ maxL ∧ (n + 1) * P.bytesOf e ≤ 140737488355328 ∧ n + 1 ≤ maxL ∧
        (n < c → K (.lit (.slice (some a) (n + 1) c)) (σ.set i (.pin a.block (.cells (cs.setIfInBounds n (.int .i64 y)) e) [] []))) ∧
        ∀ b c' cs', (∀ j, j < n → cs'[j]? = cs[j]?) → cs'[n]? = some (.int .i64 y) → cs'.size = c' → n + 1 ≤ c' → c' ≤ maxL →
          K (.lit (.slice (some ⟨b, 0, none⟩) (n + 1) c')) (σ.push (.pin b (.cells cs' e) [] []))
    | _ => False
def appendW (P : Program) (ts : Array TypeId) (s x : AV) (σ : AST) (K : AV → AST → Prop) : Prop := appendW0 P ts s x σ K ∨ appendL P ts s x σ K

def lenW (P : Program) (ts : Array TypeId) (x : AV) (K : AV → Prop) : Prop := ∃ t, ts[0]? = some t ∧ match x with
  | .str s => P.underlying t = some .string ∧ (s.length ≤ maxL → K (.int .i64 s.length))
  | .slice _ xs => (∃ e, P.underlying t = some (.slice e)) ∧ (xs.length ≤ maxL → K (.int .i64 xs.length))
  | .arr _ _ n => (∃ e, P.underlying t = some (.slice e)) ∧ (n ≤ maxL → K (.int .i64 n))
  | _ => False

/-! ### Maps, makes -/
mutual
/-- A key of a type without interfaces. -/
def keyOk (P : Program) : Nat → TypeId → AV → Bool
  | 0, _, _ => false
  | n + 1, t, x => match P.underlying t, x with
    | some .bool, .bool _ => true
    | some (.int _), .int _ _ => true
    | some .string, .str _ => true
    | some (.struct fs), .agg xs => keyOks P n 0 fs.toList xs xs
    | _, _ => false
def keyOks (P : Program) : Nat → Nat → List Field → List AV → List AV → Bool
  | 0, _, _, _, _ => false
  | _ + 1, _, [], [], _ => true
  | n + 1, i, f :: fs, x :: xs, ax => decide (f.name ≠ "_" ∧ f.offset = AV.sizes (ax.take i) ∧ aggT P f.type = some x.isAgg ∧ P.cellsOf f.type = x.size) && keyOk P n f.type x && keyOks P n (i + 1) fs xs ax
  | _, _, _, _, _ => false
end
def eqK (P : Program) (kt : TypeId) (k k' : AV) : Option Bool := if keyOk P 40 kt k' = true then eqA P 40 kt k k' else none
/-- Where a key is. none: not told. -/
def findE (P : Program) (kt : TypeId) (k : AV) : List (Nat × AV × AV) → Option (Option Nat)
  | [] => some none
  | e :: es => match eqK P kt k e.2.1 with
    | some true => some (some 0)
    | some false => (findE P kt k es).map (Option.map (· + 1))
    | none => none
def okV (ok b : Bool) (v : AV) : AV := if ok then .tuple [v, .bool b] else v
def lookupW (P : Program) (σ : AST) (t : TypeId) (x k : AV) (ok : Bool) (K : AV → Prop) : Prop :=
  ∃ kt et, P.underlying t = some (.map kt et) ∧ keyOk P 40 kt k = true ∧ match x with
  | .mp none => ZeroOf P et (zeroA P 12 et) ∧ K (okV ok false (zeroA P 12 et))
  | .mp (some i) => match σ.objs[i]? with
    | some (.map es _) => ∃ r, findE P kt k es = some r ∧ match r with
      | some j => ∀ e, es[j]? = some e → K (okV ok true e.2.2)
      | none => ZeroOf P et (zeroA P 12 et) ∧ K (okV ok false (zeroA P 12 et))
    | _ => False
  | _ => False
def mapUpdateW (P : Program) (σ : AST) (t : TypeId) (m k v : AV) (K : AST → Prop) : Prop :=
  ∃ kt et, P.underlying t = some (.map kt et) ∧ keyOk P 40 kt k = true ∧ v.known = true ∧ match m with
  | .mp (some i) => match σ.objs[i]? with
    | some (.map es ck) => ∃ r, findE P kt k es = some r ∧ match r with
      | some j => K (σ.set i (.map (es.modify j fun e => (e.1, k, v)) ck))
      | none => K (σ.set i (.map (es ++ [(ck, k, v)]) (ck + 1)))
    | _ => False
  | _ => False
def mapEntryW (P : Program) (σ : AST) (t : TypeId) (m k : AV) (K : AV → AST → Prop) : Prop :=
  ∃ kt et, P.underlying t = some (.map kt et) ∧ keyOk P 40 kt k = true ∧ match m with
  | .mp (some i) => match σ.objs[i]? with
    | some (.map es ck) => ∃ r, findE P kt k es = some r ∧ match r with
      | some j => ∀ e, es[j]? = some e → K (.tuple [e.2.2, .int .i64 e.1]) (σ.set i (.map (es.modify j fun e => (e.1, k, e.2.2)) ck))
      | none => ZeroOf P et (zeroA P 12 et) ∧ K (.tuple [zeroA P 12 et, .int .i64 ck]) (σ.set i (.map (es ++ [(ck, k, zeroA P 12 et)]) (ck + 1)))
    | _ => False
  | _ => False
def entryStoreW (σ : AST) (m st v : AV) (K : AST → Prop) : Prop := v.known = true ∧ match m, st with
  | .mp (some i), .int _ b => match σ.objs[i]? with
    | some (.map es ck) => ∃ (j : Nat) (e : Nat × AV × AV), es[j]? = some e ∧ (e.1 : Int) = b ∧ K (σ.set i (.map (es.modify j fun e => (e.1, e.2.1, v)) ck))
    | _ => False
  | _, _ => False
def deleteW (P : Program) (ts : Array TypeId) (m k : AV) (σ : AST) (K : AST → Prop) : Prop :=
  ∃ t kt et, ts[0]? = some t ∧ P.underlying t = some (.map kt et) ∧ keyOk P 40 kt k = true ∧ match m with
  | .mp none => K σ
  | .mp (some i) => match σ.objs[i]? with
    | some (.map es ck) => ∃ r, findE P kt k es = some r ∧ match r with
      | some j => K (σ.set i (.map (es.eraseIdx j) ck))
      | none => K σ
    | _ => False
  | _ => False
def clearW (P : Program) (ts : Array TypeId) (m : AV) (σ : AST) (K : AST → Prop) : Prop := (∃ t u, ts[0]? = some t ∧ P.underlying t = some u) ∧ match m with
  | .mp none => K σ
  | .mp (some i) => match σ.objs[i]? with
    | some (.map es ck) => K (σ.set i (.map [] ck))
    | _ => False
  | _ => False
/-- make of a slice: an array of its own; or a row that nobody writes; or an owner's, without elements yet. -/
def makeSliceW (P : Program) (t : TypeId) (n c : AV) (σ : AST) (K : AV → AST → Prop) : Prop := match n, c with
  | .int .i64 a, .int .i64 b => 0 ≤ a ∧ a ≤ b ∧ ∃ e z, P.underlying t = some (.slice e) ∧ ZeroOf P e z ∧ 0 < P.cellsOf e ∧ b.toNat * P.bytesOf e ≤ 16777216 ∧ b ≤ 16777216 ∧
      ((a = b ∧ K (.arr σ.objs.length [] a.toNat) (σ.push (.cells (.agg (List.replicate a.toNat z))))) ∨
        (a = b ∧ K (.slice .full (List.replicate a.toNat z)) σ) ∨
        (a = 0 ∧ K (.slice (.own σ.toks.length) []) (σ.tok 0 (P.cellsOf e))))
  | _, _ => False

def mmW (mx : Bool) (xs : List AV) (K : AV → Prop) : Prop := match xs with
  | [.int k a, .int k' b] => k = k' ∧ K (.int k (if mx then max a b else min a b))
  | _ => False

end Go.Aff

