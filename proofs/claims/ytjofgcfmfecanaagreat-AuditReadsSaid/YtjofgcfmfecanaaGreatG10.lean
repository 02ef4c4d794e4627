import Derived.Test.YtjofgcfmfecanaaGreatG9
import Derived.Test.YtjofgcfmfecanaaGreatG8
import Derived.Test.YtjofgcfmfecanaaGreatG7

set_option linter.unusedSimpArgs false
set_option linter.unusedVariables false

/- Walking: pointers compared, digests compared, arrays of anything in memory, slices of them, states known by their cells. -/
namespace Go.Aff
set_option linter.unusedVariables false
set_option linter.unusedSimpArgs false

variable {τ : Env} {P : Program} {σ σ' : AST} {K : AV → AST → Prop} {KV : AV → Prop} {KS : AST → Prop}

def isPtrT (P : Program) (t : TypeId) : Bool := match P.underlying t with | some (.pointer _) => true | _ => false
theorem isPtrT_iff {t : TypeId} (h : isPtrT P t = true) : ∃ a, P.underlying t = some (.pointer a) := by
  unfold isPtrT at h; split at h
  · exact ⟨_, by assumption⟩
  · cases h
theorem bin_ptr_eql {t : TypeId} (hu : isPtrT P t = true) {p : Option (Nat × List Nat)} : binW P .eql t (.ptr p) (.ptr none) KV = KV (.bool p.isNone) := by
  obtain ⟨a, h⟩ := isPtrT_iff hu
  cases p <;> simp [binW, eqW, eqA, h]
theorem bin_ptr_neq {t : TypeId} (hu : isPtrT P t = true) {p : Option (Nat × List Nat)} : binW P .neq t (.ptr p) (.ptr none) KV = KV (.bool !p.isNone) := by
  obtain ⟨a, h⟩ := isPtrT_iff hu
  cases p <;> simp [binW, eqW, eqA, h]

def digT (P : Program) (t : TypeId) : Bool := !P.eqGuardType P.depth t && match P.underlying t with | some (.array 32 e) => isU8 P e && P.cellsOf e == 1 | _ => false
theorem digT_iff {t : TypeId} (h : digT P t = true) : P.eqGuardType P.depth t = false ∧ ∃ e, P.underlying t = some (.array 32 e) ∧ isU8 P e = true ∧ P.cellsOf e = 1 := by
  unfold digT at h
  simp only [Bool.and_eq_true, Bool.not_eq_true'] at h
  obtain ⟨h1, h2⟩ := h
  split at h2
  · rename_i e he
    simp only [Bool.and_eq_true, beq_iff_eq] at h2
    exact ⟨h1, e, he, h2.1, h2.2⟩
  · cases h2
theorem bin_dig_eql {t : TypeId} (hu : digT P t = true) {a b : Dig} : binW P .eql t (.dig a) (.dig b) KV = KV (.bool (a.l == b.l)) := by
  obtain ⟨h1, e, h2, h3, h4⟩ := digT_iff hu
  simp [binW, eqW, eqA, h1, h2, h3, h4]
theorem bin_dig_neq {t : TypeId} (hu : digT P t = true) {a b : Dig} : binW P .neq t (.dig a) (.dig b) KV = KV (.bool !(a.l == b.l)) := by
  obtain ⟨h1, e, h2, h3, h4⟩ := digT_iff hu
  simp [binW, eqW, eqA, h1, h2, h3, h4]
theorem nilCheck_some {q : Nat × List Nat} : nilCheckW (.ptr (some q)) KV = KV (.ptr (some q)) := nr rfl
theorem cellAt_known {j : Nat} {v : AV} (h : σ.objs[j]? = some (.cells v)) (p : List Nat) : cellAt σ j p = v.at p := by simp only [cellAt, h, Option.bind_some, objCell]
theorem cellAt_known_app {j : Nat} {v : AV} (h : σ.objs[j]? = some (.cells v)) (p : List Nat) (d : List AObj) : cellAt (σ.app d) j p = v.at p := by
  have hj : j < σ.objs.length := (List.getElem?_eq_some_iff.1 h).1
  simp only [cellAt, AST.app, List.getElem?_append_left hj, h, Option.bind_some, objCell]
theorem objs_known_app {j : Nat} {o : AObj} (h : σ.objs[j]? = some o) (d : List AObj) : (σ.app d).objs[j]? = some o := by
  have hj : j < σ.objs.length := (List.getElem?_eq_some_iff.1 h).1
  simp only [AST.app, List.getElem?_append_left hj, h]
theorem objs_known_ext {j : Nat} {o : AObj} (h : σ.objs[j]? = some o) (hx : Ext σ σ') : σ'.objs[j]? = some o := by
  obtain ⟨O, T, rfl⟩ := hx
  have hj : j < σ.objs.length := (List.getElem?_eq_some_iff.1 h).1
  simp only [List.getElem?_append_left hj, h]
theorem cellAt_known_ext {j : Nat} {v : AV} (h : σ.objs[j]? = some (.cells v)) (hx : Ext σ σ') (p : List Nat) : cellAt σ' j p = v.at p := cellAt_known (objs_known_ext h hx) p
theorem keeps_none : keeps [] σ σ' = True := by simp only [eq_iff_iff, iff_true]; exact keeps_nil
theorem reads_nilCheck {ρ : Operand → AV} {x : Operand} : reads ρ (.nilCheck x) = [] := rfl
theorem keeps_app {ks : List Nat} {a b : List AObj} (h : ∀ k ∈ ks, k < σ.objs.length) : keeps ks (σ.app a) (σ.app b) := fun k hk => by
  simp only [AST.app]; rw [List.getElem?_append_left (h k hk), List.getElem?_append_left (h k hk)]
theorem keeps_push {ks : List Nat} {o : AObj} (h : ∀ k ∈ ks, k < σ.objs.length) : keeps ks σ (σ.push o) := fun k hk => by
  simp only [AST.push]; rw [List.getElem?_append_left (h k hk)]
attribute [go_sem] reads_nilCheck keeps_none nilCheck_some isPtrT bin_ptr_eql bin_ptr_neq Option.isNone_some Option.isNone_none

theorem sizes_all {c : Nat} : ∀ {l : List AV}, (∀ v ∈ l, v.size = c) → AV.sizes l = l.length * c
  | [], _ => by simp [AV.sizes]
  | v :: r, h => by
    have h1 := h v (by simp)
    have h2 := sizes_all (l := r) fun x hx => h x (by simp [hx])
    simp only [AV.sizes, h1, h2, List.length_cons, Nat.succ_mul]; omega

/-- A place of an array in memory. -/
theorem indexAddr_arr {t e n c : Nat} {j : Nat} {p : List Nat} {xs : List AV} {i : Nat} {x : AV} {q : IntKind} (hu : P.underlying t = some (.array n e)) (hc : P.cellsOf e = c) (hl : xs.length = n) (hs : ∀ v ∈ xs, v.size = c)
    (ho : cellAt σ j p = some (.agg xs)) (hi : xs[i]? = some x) (hf : fits P e x) (hK : KV (.ptr (some (j, p ++ [i])))) : indexAddrW P σ t (.ptr (some (j, p))) (.int q i) KV := by
  have hin : i < n := by rw [← hl]; exact (List.getElem?_eq_some_iff.1 hi).1
  have hpl : placeOf P t i = some (i * c, e) := by
    unfold placeOf
    rw [hu]; simp only; rw [if_pos hin, hc]
  have hsz : AV.sizes (xs.take i) = i * c := by
    rw [sizes_all (c := c) fun v hv => hs v (List.mem_of_mem_take hv), List.length_take, Nat.min_eq_left (by omega)]
  simp only [cellAt, Option.bind_eq_some_iff] at ho
  obtain ⟨o, h1, h2⟩ := ho
  cases o with
  | cells v =>
    simp only [objCell] at h2
    simp only [indexAddrW, h1, h2]
    refine ⟨by omega, by omega, fun z hz => ?_⟩
    simp only [Int.toNat_natCast] at hz ⊢
    rw [hi] at hz; cases hz
    refine ⟨⟨e, ?_, hf⟩, ⟨e, by rw [hl]; exact hu⟩, hK⟩
    rw [hpl, hsz]
  | _ => simp [objCell] at h2

/-- A place of a digest in memory. -/
theorem indexAddr_dig {t e : TypeId} {j : Nat} {p : List Nat} {d : Dig} {i : Nat} {q : IntKind} (hu : P.underlying t = some (.array 32 e)) (hf : fits P e (.int .u8 0)) (ho : cellAt σ j p = some (.dig d)) (hi : i < 32) (hK : KV (.ptr (some (j, p ++ [i])))) :
    indexAddrW P σ t (.ptr (some (j, p))) (.int q i) KV := by
  simp only [cellAt, Option.bind_eq_some_iff] at ho
  obtain ⟨o, h1, h2⟩ := ho
  cases o with
  | cells v =>
    simp only [objCell] at h2
    simp only [indexAddrW, h1, h2]
    refine ⟨by omega, by rw [d.h]; omega, fun z hz => ?_⟩
    exact ⟨⟨e, hu, hf⟩, by rw [Int.toNat_natCast]; exact hK⟩
  | _ => simp [objCell] at h2
theorem at_dig1 {d : Dig} {i : Nat} : (AV.dig d).at [i] = (d.l[i]?).map fun b => .int .u8 b.toNat := rfl
/-- A place of a slice of an array in memory. -/
theorem indexAddr_part {t e m c : Nat} {j : Nat} {p : List Nat} {xs : List AV} {i : Nat} {x : AV} {q : IntKind} (hu : P.underlying t = some (.slice e)) (hc : P.cellsOf e = c) (hm : m ≤ xs.length) (hs : ∀ v ∈ xs, v.size = c) (him : i < m)
    (ho : cellAt σ j p = some (.agg xs)) (hi : xs[i]? = some x) (hf : fits P e x) (hK : KV (.ptr (some (j, p ++ [i])))) : indexAddrW P σ t (.arr j p m) (.int q i) KV := by
  have hsz : AV.sizes (xs.take i) = i * c := by
    rw [sizes_all (c := c) fun v hv => hs v (List.mem_of_mem_take hv), List.length_take, Nat.min_eq_left (by omega)]
  simp only [cellAt, Option.bind_eq_some_iff] at ho
  obtain ⟨o, h1, h2⟩ := ho
  cases o with
  | cells v =>
    simp only [objCell] at h2
    simp only [indexAddrW, h1, h2]
    refine ⟨e, hu, hm, by rw [Int.toNat_natCast, hsz, hc], by omega, by rw [List.length_take]; omega, fun z hz => ?_⟩
    simp only [Int.toNat_natCast] at hz ⊢
    rw [List.getElem?_take, if_pos him, hi] at hz; cases hz
    exact ⟨hf, hK⟩
  | _ => simp [objCell] at h2
/-- An array in memory, sliced. -/
theorem slice_arr {t e n h : Nat} {j : Nat} {p : List Nat} {q : IntKind} (hu : P.underlying t = some (.array n e)) (hn : n ≤ maxL) (he : ∃ d, P.underlying e = some d) (hh : h ≤ n) (hK : KV (.arr j p h)) :
    sliceW P t (.ptr (some (j, p))) none (some (.int q h)) none KV := by
  refine ⟨e, n, .inr hu, hn, he, rfl, rfl, by omega, ?_⟩
  simp only [Int.toNat_natCast]; exact ⟨hh, hK⟩

theorem mm_min {k : IntKind} {a b : Int} : mmW false [.int k a, .int k b] KV = KV (.int k (min a b)) := by simp [mmW]
attribute [go_sem] mm_min
theorem res_ttc {a b c : Nat} {ty : TypeId} : resW P [.tmp a, .tmp b, .cell c ty] τ σ KV = loadW P σ ty (τ c) (@LamA _ ⟨fun x => ((τ a).known = true ∧ (τ b).known = true ∧ x.known = true) ∧ @Later ⟨KV (.tuple [τ a, τ b, x])⟩⟩) := by
  simp [resW, resList, oneRes, Later, LamA]
theorem res_ttt {a b c : Nat} : resW P [.tmp a, .tmp b, .tmp c] τ σ KV = (((τ a).known = true ∧ (τ b).known = true ∧ (τ c).known = true) ∧ @Later ⟨KV (.tuple [τ a, τ b, τ c])⟩) := by
  simp [resW, resList, oneRes, Later, LamA]
attribute [go_sem ↓] res_ttc
end Go.Aff

/- Walking: an owner of one's own that grows. -/
namespace Go.Aff
set_option linter.unusedVariables false

variable {P : Program} {σ s : AST} {tk : Tk} {K : AV → AST → Prop}

/-- Behind σ, with an owner that was not there, who has n elements of e cells. -/
structure Gr (σ s : AST) (tk : Tk) (n : Nat) (e : Nat := 1) : Prop where
  x : Ext σ s
  t : tkNew σ tk
  c : canApp s tk n e
theorem Gr.start {n e : Nat} : Gr σ σ .full n e := ⟨Ext.refl _, .inl rfl, trivial⟩
theorem Gr.start' {n e : Nat} (h : Ext σ s) : Gr σ s .full n e := ⟨h, .inl rfl, trivial⟩
theorem Gr.grow {n m e : Nat} (h : Gr σ s tk n e) : Gr σ (growS s tk m e) (growT s tk) m e := ⟨h.x.grow h.t, h.t.grow h.x, canApp_grow h.c⟩
theorem Gr.app {n e : Nat} {l : List AObj} (h : Gr σ s tk n e) : Gr σ (s.app l) tk n e := ⟨h.x.trans (Ext.app _ _), h.t, by rw [canApp_app]; exact h.c⟩
theorem Gr.set {σ s : AST} {tk : Tk} {n e i : Nat} {o : AObj} (h : Gr σ s tk n e) (hi : σ.objs.length ≤ i) : Gr σ (s.set i o) tk n e := ⟨h.x.set hi, h.t, by rw [canApp_set]; exact h.c⟩
theorem canApp_of {n m e : Nat} (h : canApp s tk n e) (hm : m = n) : canApp s tk m e := by subst hm; exact h
theorem growS_objs {n e : Nat} : (growS σ tk n e).objs = σ.objs := by cases tk <;> rfl

/-! ### Parts put in, by rewriting -/
variable {KV : AV → Prop}
def fillE (P : Program) (t : TypeId) (ps : List AV) (u : Option AV) (i : Nat) (x : AV) (r : List (Nat × AV)) (K : AV → Prop) : Prop := match u with
  | some u => partIs P t ps i x ∧ u.shape = x.shape ∧ x.known = true ∧ fillW P t r (.agg (ps.set i x)) K
  | none => False
theorem fill_agg {t : TypeId} {i : Nat} {x : AV} {r : List (Nat × AV)} {ps : List AV} : fillW P t ((i, x) :: r) (.agg ps) KV = fillE P t ps ps[i]? i x r KV := by
  rw [fillW.eq_2]
  cases h : ps[i]? with
  | none => simp [fillE]
  | some u => simp [fillE]
theorem fillE_some {t : TypeId} {i : Nat} {x u : AV} {r : List (Nat × AV)} {ps : List AV} : fillE P t ps (some u) i x r KV = ((partIs P t ps i x ∧ u.shape = x.shape ∧ x.known = true) ∧ @Later ⟨fillW P t r (.agg (ps.set i x)) KV⟩) := by
  simp [fillE, Later, and_assoc]
theorem fill_nil' {t : TypeId} {v : AV} : fillW P t [] v KV = KV v := by cases v <;> rfl
attribute [go_sem] fill_agg fillE_some fill_nil'
end Go.Aff

/- Drawn regions by trees of orders. -/
namespace Go.Aff
set_option linter.unusedVariables false
set_option linter.unusedSimpArgs false

variable {P : Program} {σ σ' : AST} {ops : Array Oper} {τ : Env} {KE : Env → AST → Prop}

/-- Orders with a word on each operation: 0: it reads, and that must stay; 1: it may leave something behind; 2: it reads, and stands ahead of all from the first on that leaves something behind; 3: it leaves nothing behind. -/
inductive Tf where
  | nil
  | op (i k : Nat) (r : Tf)
  | fork (e : Nat) (a b : Tf)
def Tf.tr : Tf → Tr
  | .nil => .nil
  | .op i _ r => .op i r.tr
  | .fork e a b => .fork e a.tr b.tr
def Tf.all : Tf → List Nat
  | .nil => []
  | .op i k r => if k = 1 ∨ k = 3 then i :: r.all else r.all
  | .fork _ a b => a.all ++ b.all
/-- Those from the first on that may leave something behind. -/
def Tf.effs : Tf → List Nat
  | .nil => []
  | .op i k r => if k = 1 then i :: r.all else r.effs
  | .fork _ a b => a.effs ++ b.effs
theorem Tf.effs_all : ∀ {T : Tf} {x : Nat}, x ∈ T.effs → x ∈ T.all
  | .nil, x, h => h
  | .op i k r, x, h => by
    simp only [Tf.effs] at h
    simp only [Tf.all]
    split at h
    · rename_i hk; rw [if_pos (.inl hk)]; exact h
    · have := Tf.effs_all h
      split
      · exact List.mem_cons_of_mem _ this
      · exact this
  | .fork _ a b, x, h => by
    simp only [Tf.effs, Tf.all, List.mem_append] at h ⊢
    exact h.imp Tf.effs_all Tf.effs_all

def seqT (P : Program) (ops : Array Oper) : Tf → List Nat → Env → AST → (Env → AST → Prop) → Prop
  | .nil, ks, τ, σ, K => K τ σ
  | .op i 1 r, ks, τ, σ, K => match gop ops i with
    | none => False
    | some o => stepW P ops o τ σ fun v σ' => keeps ks σ σ' ∧ seqT P ops r ks (τ.putO o.dst v) σ' K
  | .op i 0 r, ks, τ, σ, K => match gop ops i with
    | none => False
    | some o => stepW P ops o τ σ fun v σ' => σ' = σ ∧ seqT P ops r (reads (ev τ) o.op ++ ks) (τ.putO o.dst v) σ' K
  | .op i _ r, ks, τ, σ, K => match gop ops i with
    | none => False
    | some o => stepW P ops o τ σ fun v σ' => σ' = σ ∧ seqT P ops r ks (τ.putO o.dst v) σ' K
  | .fork _ a b, ks, τ, σ, K => seqT P ops a ks τ σ K ∧ seqT P ops b ks τ σ K

def flagsT (P : Program) (ops : Array Oper) : Tf → Bool
  | .nil => true
  | .op i k r => (match ops[i]? with
    | none => false
    | some o => effO P o == (k == 1 || k == 3)) && (k == 0 || k == 1 || k == 3 || r.effs.all fun y => ahead (anc ops) y i) && flagsT P ops r
  | .fork _ a b => flagsT P ops a && flagsT P ops b

def validT (P : Program) (ops : Array Oper) (x : Nat × Env × AV) (σ : AST) : Prop := ∀ o, ops[x.1]? = some o → (∀ t, lenOk (x.2.1 t)) ∧ effO P o = false ∧ stepW P ops o x.2.1 σ fun v' σ'' => v' = x.2.2 ∧ σ'' = σ
def pastT (P : Program) (ops : Array Oper) (ks : List Nat) (past : List (Nat × Env × AV)) (T : Tf) (σ : AST) : Prop :=
  ∀ x ∈ past, (validT P ops x σ ∧ ∀ o, ops[x.1]? = some o → ∀ k ∈ reads (ev x.2.1) o.op, k ∈ ks) ∨ (validT P ops x σ ∧ ∀ y ∈ T.effs, ahead (anc ops) y x.1 = true) ∨ (∀ y ∈ T.all, ahead (anc ops) y x.1 = true)

theorem seqT_pure (i k : Nat) (r : Tf) (ks : List Nat) (past : List (Nat × Env × AV)) (τ : Env) (σ : AST) (k0 : k ≠ 0) (k1 : k ≠ 1) (k3 : k ≠ 3)
    (ih : ∀ (past' : List (Nat × Env × AV)) (τ' : Env), flagsT P ops r = true → pastT P ops ks past' r σ → (∀ t, lenOk (τ' t)) → seqT P ops r ks τ' σ KE → awpT P ops r.tr past' τ' σ KE)
    (hf : flagsT P ops (.op i k r) = true) (hp : pastT P ops ks past (.op i k r) σ) (hlen : ∀ t, lenOk (τ t))
    (h : match gop ops i with
      | none => False
      | some o => stepW P ops o τ σ fun v σ' => σ' = σ ∧ seqT P ops r ks (τ.putO o.dst v) σ' KE) : awpT P ops (Tf.op i k r).tr past τ σ KE := by
  split at h
  · exact h.elim
  · rename_i o hk
    have hk : ops[i]? = some o := hk
    simp only [flagsT, hk, Bool.and_eq_true, beq_iff_eq] at hf
    have b0 : (k == 0) = false := by simpa using k0
    have b1 : (k == 1) = false := by simpa using k1
    have b3 : (k == 3) = false := by simpa using k3
    rw [b0, b1, b3] at hf
    have he : effO P o = false := by simpa using hf.1.1
    have hall : (r.effs.all fun y => ahead (anc ops) y i) = true := by simpa using hf.1.2
    rw [List.all_eq_true] at hall
    simp only [Tf.tr, awpT, hk, he, Bool.false_eq_true, if_false]
    obtain ⟨v, hv, hkk⟩ := stepW_det hlen he h
    refine hkk _ fun hlv => ih _ _ hf.2 ?_ hlv hv.2
    intro x hx
    rcases List.mem_cons.1 hx with rfl | hx
    · right; left
      refine ⟨fun o' ho' => ?_, hall⟩
      dsimp only at ho' ⊢
      rw [hk] at ho'; cases ho'
      exact ⟨hlen, he, hkk _ ⟨rfl, rfl⟩⟩
    · rcases hp x hx with ⟨h0, h1⟩ | ⟨h0, h1⟩ | h0
      · exact .inl ⟨h0, h1⟩
      · exact .inr (.inl ⟨h0, fun y hy => h1 y (by simpa [Tf.effs, k1] using hy)⟩)
      · exact .inr (.inr fun y hy => h0 y (by simpa [Tf.all, k1, k3] using hy))
theorem seqT_awpT : ∀ (T : Tf) (ks : List Nat) (past : List (Nat × Env × AV)) (τ : Env) (σ : AST), flagsT P ops T = true → pastT P ops ks past T σ → (∀ t, lenOk (τ t)) → seqT P ops T ks τ σ KE → awpT P ops T.tr past τ σ KE
  | .nil, ks, past, τ, σ, hf, hp, hlen, h => h
  | .fork e a b, ks, past, τ, σ, hf, hp, hlen, h => by
    simp only [flagsT, Bool.and_eq_true] at hf
    simp only [seqT] at h
    refine ⟨seqT_awpT a ks past τ σ hf.1 (fun x hx => ?_) hlen h.1, seqT_awpT b ks past τ σ hf.2 (fun x hx => ?_) hlen h.2⟩
    · rcases hp x hx with h | ⟨h1, h2⟩ | h
      · exact .inl h
      · exact .inr (.inl ⟨h1, fun y hy => h2 y (by simp [Tf.effs, hy])⟩)
      · exact .inr (.inr fun y hy => h y (by simp [Tf.all, hy]))
    · rcases hp x hx with h | ⟨h1, h2⟩ | h
      · exact .inl h
      · exact .inr (.inl ⟨h1, fun y hy => h2 y (by simp [Tf.effs, hy])⟩)
      · exact .inr (.inr fun y hy => h y (by simp [Tf.all, hy]))
  | .op i 1 r, ks, past, τ, σ, hf, hp, hlen, h => by
    simp only [seqT] at h
    split at h
    · exact h.elim
    · rename_i o hk
      have hk : ops[i]? = some o := hk
      simp only [flagsT, hk, Bool.and_eq_true, beq_iff_eq] at hf
      have he : effO P o = true := by simpa using hf.1.1
      simp only [Tf.tr, awpT, hk, he, if_true]
      refine stepW_mono (fun v σ' hh => ?_) h
      refine ⟨fun x hx hah o ho => ?_, fun hlv => seqT_awpT r ks past _ _ hf.2 ?_ hlv hh.2⟩
      · rcases hp x hx with ⟨h0, h3⟩ | ⟨_, h0⟩ | h0
        · obtain ⟨h1, h2, h4⟩ := h0 o ho
          exact step_same h1 h2 (fun k hk => hh.1 k (h3 o ho k hk)) h4
        · rw [h0 i (by simp [Tf.effs])] at hah; cases hah
        · rw [h0 i (by simp [Tf.all])] at hah; cases hah
      · intro x hx
        rcases hp x hx with ⟨h0, h3⟩ | ⟨_, h0⟩ | h0
        · left
          refine ⟨fun o ho => ?_, h3⟩
          obtain ⟨h1, h2, h4⟩ := h0 o ho
          exact ⟨h1, h2, step_same h1 h2 (fun k hk => hh.1 k (h3 o ho k hk)) h4⟩
        · right; right
          intro y hy; exact h0 y (by simp [Tf.effs, hy])
        · right; right
          intro y hy; exact h0 y (by simp [Tf.all, hy])
  | .op i 3 r, ks, past, τ, σ, hf, hp, hlen, h => by
    simp only [seqT] at h
    split at h
    · exact h.elim
    · rename_i o hk
      have hk : ops[i]? = some o := hk
      simp only [flagsT, hk, Bool.and_eq_true, beq_iff_eq] at hf
      have he : effO P o = true := by simpa using hf.1.1
      simp only [Tf.tr, awpT, hk, he, if_true]
      refine stepW_mono (fun v σ' hh => ?_) h
      obtain ⟨rfl, hh⟩ := hh
      refine ⟨fun x hx hah o ho => ?_, fun hlv => seqT_awpT r ks past _ _ hf.2 ?_ hlv hh⟩
      · rcases hp x hx with ⟨h0, h3⟩ | ⟨h0, _⟩ | h0
        · exact (h0 o ho).2.2
        · exact (h0 o ho).2.2
        · rw [h0 i (by simp [Tf.all])] at hah; cases hah
      · intro x hx
        rcases hp x hx with h0 | ⟨h0, h1⟩ | h0
        · exact .inl h0
        · exact .inr (.inl ⟨h0, fun y hy => h1 y (by simpa [Tf.effs] using hy)⟩)
        · exact .inr (.inr fun y hy => h0 y (by simp [Tf.all, hy]))
  | .op i 0 r, ks, past, τ, σ, hf, hp, hlen, h => by
    simp only [seqT] at h
    split at h
    · exact h.elim
    · rename_i o hk
      have hk : ops[i]? = some o := hk
      simp only [flagsT, hk, Bool.and_eq_true, beq_iff_eq] at hf
      have he : effO P o = false := by simpa using hf.1.1
      simp only [Tf.tr, awpT, hk, he, Bool.false_eq_true, if_false]
      obtain ⟨v, hv, hkk⟩ := stepW_det hlen he h
      refine hkk _ fun hlv => seqT_awpT r _ _ _ _ hf.2 ?_ hlv hv.2
      intro x hx
      rcases List.mem_cons.1 hx with rfl | hx
      · left
        refine ⟨fun o' ho' => ?_, fun o' ho' k hkr => ?_⟩
        · dsimp only at ho' ⊢
          rw [hk] at ho'; cases ho'
          exact ⟨hlen, he, hkk _ ⟨rfl, rfl⟩⟩
        · dsimp only at ho' hkr
          rw [hk] at ho'; cases ho'
          exact List.mem_append_left _ hkr
      · rcases hp x hx with ⟨h0, h1⟩ | ⟨h0, h1⟩ | h0
        · exact .inl ⟨h0, fun o' ho' k hkr => List.mem_append_right _ (h1 o' ho' k hkr)⟩
        · exact .inr (.inl ⟨h0, fun y hy => h1 y (by simpa [Tf.effs] using hy)⟩)
        · exact .inr (.inr fun y hy => h0 y (by simpa [Tf.all] using hy))
  | .op i 2 r, ks, past, τ, σ, hf, hp, hlen, h => seqT_pure i 2 r ks past τ σ (by decide) (by decide) (by decide) (fun past' K' h1 h2 h3 h4 => seqT_awpT r ks past' _ σ h1 h2 h3 h4) hf hp hlen (by simpa only [seqT] using h)
  | .op i (n + 4) r, ks, past, τ, σ, hf, hp, hlen, h => seqT_pure i (n + 4) r ks past τ σ (by omega) (by omega) (by omega) (fun past' K' h1 h2 h3 h4 => seqT_awpT r ks past' _ σ h1 h2 h3 h4) hf hp hlen (by simpa only [seqT] using h)

theorem awp_drawT {id : Nat} {ops : Array Oper} {Q : Exit → Env → AST → Prop} (T : Tf) (ho : (trOk P ops T.tr && flagsT P ops T) = true) (h : seqT P ops T [] τ σ (Q .normal)) : awp P (.region id ops true) Q τ σ := by
  rw [Bool.and_eq_true] at ho
  exact awp_drawTree _ ho.1 fun hlen => seqT_awpT T [] [] τ σ ho.2 (fun x hx => by simp at hx) hlen h

def seqT0 (P : Program) (ops : Array Oper) (o : Option Oper) (r : Tf) (ks : List Nat) (τ : Env) (σ : AST) (K : Env → AST → Prop) : Prop := match o with
  | none => False
  | some o => stepW P ops o τ σ fun v σ' => σ' = σ ∧ seqT P ops r (reads (ev τ) o.op ++ ks) (τ.putO o.dst v) σ' K
def seqT1 (P : Program) (ops : Array Oper) (o : Option Oper) (r : Tf) (ks : List Nat) (τ : Env) (σ : AST) (K : Env → AST → Prop) : Prop := match o with
  | none => False
  | some o => stepW P ops o τ σ fun v σ' => keeps ks σ σ' ∧ seqT P ops r ks (τ.putO o.dst v) σ' K
def seqT2 (P : Program) (ops : Array Oper) (o : Option Oper) (r : Tf) (ks : List Nat) (τ : Env) (σ : AST) (K : Env → AST → Prop) : Prop := match o with
  | none => False
  | some o => stepW P ops o τ σ fun v σ' => σ' = σ ∧ seqT P ops r ks (τ.putO o.dst v) σ' K
variable {ks : List Nat}
theorem seqT_nil : seqT P ops .nil ks τ σ KE = KE τ σ := nr rfl
theorem seqT_1 {i : Nat} {r : Tf} : seqT P ops (.op i 1 r) ks τ σ KE = seqT1 P ops (gop ops i) r ks τ σ KE := by simp only [seqT, seqT1]
theorem seqT_0 {i : Nat} {r : Tf} : seqT P ops (.op i 0 r) ks τ σ KE = seqT0 P ops (gop ops i) r ks τ σ KE := by simp only [seqT, seqT0]
theorem seqT_3 {i : Nat} {r : Tf} : seqT P ops (.op i 3 r) ks τ σ KE = seqT2 P ops (gop ops i) r ks τ σ KE := by simp only [seqT, seqT2]
theorem seqT_2 {i : Nat} {r : Tf} : seqT P ops (.op i 2 r) ks τ σ KE = seqT2 P ops (gop ops i) r ks τ σ KE := by simp only [seqT, seqT2]
structure Both (A B : Prop) : Prop where
  l : A
  r : B
theorem seqT_fork {e : Nat} {a b : Tf} : seqT P ops (.fork e a b) ks τ σ KE = Both (@Later ⟨seqT P ops a ks τ σ KE⟩) (@Later ⟨seqT P ops b ks τ σ KE⟩) := by
  simp only [seqT, Later, eq_iff_iff]
  exact ⟨fun h => ⟨h.1, h.2⟩, fun h => ⟨h.l, h.r⟩⟩
theorem both_ways {A B : Prop} (ha : A) (hb : B) : Both (@Later ⟨A⟩) (@Later ⟨B⟩) := ⟨ha, hb⟩
theorem seqT1_some {o : Oper} {r : Tf} : seqT1 P ops (some o) r ks τ σ KE = stepW P ops o τ σ (@Lam ⟨fun v σ' => @Later ⟨keeps ks σ σ' ∧ seqT P ops r ks (τ.putO o.dst v) σ' KE⟩⟩) := nr rfl
theorem seqT0_some {o : Oper} {r : Tf} : seqT0 P ops (some o) r ks τ σ KE = stepW P ops o τ σ (@Lam ⟨fun v σ' => σ' = σ ∧ @Later ⟨seqT P ops r (reads (ev τ) o.op ++ ks) (τ.putO o.dst v) σ' KE⟩⟩) := nr rfl
theorem seqT2_some {o : Oper} {r : Tf} : seqT2 P ops (some o) r ks τ σ KE = stepW P ops o τ σ (@Lam ⟨fun v σ' => σ' = σ ∧ @Later ⟨seqT P ops r ks (τ.putO o.dst v) σ' KE⟩⟩) := nr rfl
attribute [go_sem ↓] seqT_nil seqT_0 seqT_1 seqT_2 seqT_3 seqT_fork seqT0_some seqT1_some seqT2_some
end Go.Aff

/- Layer 10: structs. -/
namespace Go.Aff.L10
open Go.Proofs Go.Aff Go.Aff.L01 Classical
set_option linter.unusedVariables false
set_option maxRecDepth 20000
def dig0 : Dig := ⟨List.replicate 32 0, by simp⟩
structure Sub where
  num : Int
  kind : Int
  target : Int
  value : List UInt8
  asked : Dig
  data : Dig
def sub0 : Sub := ⟨0, 0, 0, [], dig0, dig0⟩
def subPs (x : Sub) : List AV := [.int .i64 x.num, .int .i64 x.kind, .int .i64 x.target, .str x.value, .dig x.asked, .dig x.data]
abbrev subV (x : Sub) : AV := .agg (subPs x)
theorem subPs_0 {x : Sub} : (subPs x)[0]? = some (.int .i64 x.num) := nr rfl
theorem subAt_0 {x : Sub} {v : AV} : partIs Tryz.prog 42 (subPs x) 0 v = fits Tryz.prog 3 v := by rw [partIs_of (o := 0) (T := 3) (by kernel_rfl)]; simp [subPs, AV.sizes, AV.size]
theorem subSet_0 {x : Sub} {y : Int} : (subPs x).set 0 (.int .i64 y) = subPs { x with num := y } := nr rfl
theorem subPs_1 {x : Sub} : (subPs x)[1]? = some (.int .i64 x.kind) := nr rfl
theorem subAt_1 {x : Sub} {v : AV} : partIs Tryz.prog 42 (subPs x) 1 v = fits Tryz.prog 3 v := by rw [partIs_of (o := 1) (T := 3) (by kernel_rfl)]; simp [subPs, AV.sizes, AV.size]
theorem subSet_1 {x : Sub} {y : Int} : (subPs x).set 1 (.int .i64 y) = subPs { x with kind := y } := nr rfl
theorem subPs_2 {x : Sub} : (subPs x)[2]? = some (.int .i64 x.target) := nr rfl
theorem subAt_2 {x : Sub} {v : AV} : partIs Tryz.prog 42 (subPs x) 2 v = fits Tryz.prog 3 v := by rw [partIs_of (o := 2) (T := 3) (by kernel_rfl)]; simp [subPs, AV.sizes, AV.size]
theorem subSet_2 {x : Sub} {y : Int} : (subPs x).set 2 (.int .i64 y) = subPs { x with target := y } := nr rfl
theorem subPs_3 {x : Sub} : (subPs x)[3]? = some (.str x.value) := nr rfl
theorem subAt_3 {x : Sub} {v : AV} : partIs Tryz.prog 42 (subPs x) 3 v = fits Tryz.prog 9 v := by rw [partIs_of (o := 3) (T := 9) (by kernel_rfl)]; simp [subPs, AV.sizes, AV.size]
theorem subSet_3 {x : Sub} {y : List UInt8} : (subPs x).set 3 (.str y) = subPs { x with value := y } := nr rfl
theorem subPs_4 {x : Sub} : (subPs x)[4]? = some (.dig x.asked) := nr rfl
theorem subAt_4 {x : Sub} {v : AV} : partIs Tryz.prog 42 (subPs x) 4 v = fits Tryz.prog 40 v := by rw [partIs_of (o := 4) (T := 40) (by kernel_rfl)]; simp [subPs, AV.sizes, AV.size]
theorem subSet_4 {x : Sub} {y : Dig} : (subPs x).set 4 (.dig y) = subPs { x with asked := y } := nr rfl
theorem subPs_5 {x : Sub} : (subPs x)[5]? = some (.dig x.data) := nr rfl
theorem subAt_5 {x : Sub} {v : AV} : partIs Tryz.prog 42 (subPs x) 5 v = fits Tryz.prog 40 v := by rw [partIs_of (o := 36) (T := 40) (by kernel_rfl)]; simp [subPs, AV.sizes, AV.size]
theorem subSet_5 {x : Sub} {y : Dig} : (subPs x).set 5 (.dig y) = subPs { x with data := y } := nr rfl
theorem sizes_sub {x : Sub} : AV.sizes (subPs x) = 68 := by simp [subPs, AV.sizes, AV.size]
theorem shapes_sub {x : Sub} : AV.shapes (subPs x) = [.leaf, .leaf, .leaf, .leaf, .dig, .dig] := by simp [subPs, AV.shapes, AV.shape]
theorem fits_sub {v : AV} : fits Tryz.prog 42 v = (v.isAgg = true ∧ v.size = 68) := fits_agg (by kernel_rfl) (by kernel_rfl)
theorem zero_sub : zeroA Tryz.prog 12 42 = .agg (subPs sub0) := by kernel_rfl
theorem zt_sub : ZeroOf Tryz.prog 42 (.agg (subPs sub0)) = True := eq_true ⟨_, _, rfl, rfl, rfl, rfl, rfl⟩
theorem built_sub : Built Tryz.prog 42 = True := eq_true (by unfold Built; rw [Tryz.underlying42]; decide +kernel)
theorem strip_sub {x : Sub} : AV.strips (subPs x) = subPs x := by simp [subPs, AV.strips, AV.strip]
theorem noRef_sub {x : Sub} : AV.noRefs (subPs x) = true := by simp [subPs, AV.noRefs, AV.noRef]
structure Pend where
  client : Int
  num : Int
  kind : Int
  target : Int
  asked : Dig
  proof : Dig
def pend0 : Pend := ⟨0, 0, 0, 0, dig0, dig0⟩
def pendPs (x : Pend) : List AV := [.int .i64 x.client, .int .i64 x.num, .int .i64 x.kind, .int .i64 x.target, .dig x.asked, .dig x.proof]
abbrev pendV (x : Pend) : AV := .agg (pendPs x)
theorem pendPs_0 {x : Pend} : (pendPs x)[0]? = some (.int .i64 x.client) := nr rfl
theorem pendAt_0 {x : Pend} {v : AV} : partIs Tryz.prog 104 (pendPs x) 0 v = fits Tryz.prog 3 v := by rw [partIs_of (o := 0) (T := 3) (by kernel_rfl)]; simp [pendPs, AV.sizes, AV.size]
theorem pendSet_0 {x : Pend} {y : Int} : (pendPs x).set 0 (.int .i64 y) = pendPs { x with client := y } := nr rfl
theorem pendPs_1 {x : Pend} : (pendPs x)[1]? = some (.int .i64 x.num) := nr rfl
theorem pendAt_1 {x : Pend} {v : AV} : partIs Tryz.prog 104 (pendPs x) 1 v = fits Tryz.prog 3 v := by rw [partIs_of (o := 1) (T := 3) (by kernel_rfl)]; simp [pendPs, AV.sizes, AV.size]
theorem pendSet_1 {x : Pend} {y : Int} : (pendPs x).set 1 (.int .i64 y) = pendPs { x with num := y } := nr rfl
theorem pendPs_2 {x : Pend} : (pendPs x)[2]? = some (.int .i64 x.kind) := nr rfl
theorem pendAt_2 {x : Pend} {v : AV} : partIs Tryz.prog 104 (pendPs x) 2 v = fits Tryz.prog 3 v := by rw [partIs_of (o := 2) (T := 3) (by kernel_rfl)]; simp [pendPs, AV.sizes, AV.size]
theorem pendSet_2 {x : Pend} {y : Int} : (pendPs x).set 2 (.int .i64 y) = pendPs { x with kind := y } := nr rfl
theorem pendPs_3 {x : Pend} : (pendPs x)[3]? = some (.int .i64 x.target) := nr rfl
theorem pendAt_3 {x : Pend} {v : AV} : partIs Tryz.prog 104 (pendPs x) 3 v = fits Tryz.prog 3 v := by rw [partIs_of (o := 3) (T := 3) (by kernel_rfl)]; simp [pendPs, AV.sizes, AV.size]
theorem pendSet_3 {x : Pend} {y : Int} : (pendPs x).set 3 (.int .i64 y) = pendPs { x with target := y } := nr rfl
theorem pendPs_4 {x : Pend} : (pendPs x)[4]? = some (.dig x.asked) := nr rfl
theorem pendAt_4 {x : Pend} {v : AV} : partIs Tryz.prog 104 (pendPs x) 4 v = fits Tryz.prog 40 v := by rw [partIs_of (o := 4) (T := 40) (by kernel_rfl)]; simp [pendPs, AV.sizes, AV.size]
theorem pendSet_4 {x : Pend} {y : Dig} : (pendPs x).set 4 (.dig y) = pendPs { x with asked := y } := nr rfl
theorem pendPs_5 {x : Pend} : (pendPs x)[5]? = some (.dig x.proof) := nr rfl
theorem pendAt_5 {x : Pend} {v : AV} : partIs Tryz.prog 104 (pendPs x) 5 v = fits Tryz.prog 40 v := by rw [partIs_of (o := 36) (T := 40) (by kernel_rfl)]; simp [pendPs, AV.sizes, AV.size]
theorem pendSet_5 {x : Pend} {y : Dig} : (pendPs x).set 5 (.dig y) = pendPs { x with proof := y } := nr rfl
theorem sizes_pend {x : Pend} : AV.sizes (pendPs x) = 68 := by simp [pendPs, AV.sizes, AV.size]
theorem shapes_pend {x : Pend} : AV.shapes (pendPs x) = [.leaf, .leaf, .leaf, .leaf, .dig, .dig] := by simp [pendPs, AV.shapes, AV.shape]
theorem fits_pend {v : AV} : fits Tryz.prog 104 v = (v.isAgg = true ∧ v.size = 68) := fits_agg (by kernel_rfl) (by kernel_rfl)
theorem zero_pend : zeroA Tryz.prog 12 104 = .agg (pendPs pend0) := by kernel_rfl
theorem zt_pend : ZeroOf Tryz.prog 104 (.agg (pendPs pend0)) = True := eq_true ⟨_, _, rfl, rfl, rfl, rfl, rfl⟩
theorem built_pend : Built Tryz.prog 104 = True := eq_true (by unfold Built; rw [Tryz.underlying104]; decide +kernel)
theorem strip_pend {x : Pend} : AV.strips (pendPs x) = pendPs x := by simp [pendPs, AV.strips, AV.strip]
theorem noRef_pend {x : Pend} : AV.noRefs (pendPs x) = true := by simp [pendPs, AV.noRefs, AV.noRef]
structure Rep where
  num : Int
  last : Int
  view : List UInt8
  commit : Dig
  pending : List Pend
  vnum : Int
  value : List UInt8
  data : Dig
  seen : List UInt8
  seenTag : Dig
def rep0 : Rep := ⟨0, 0, [], dig0, [], 0, [], dig0, [], dig0⟩
def repPs (t0 : Tk) (x : Rep) : List AV := [.int .i64 x.num, .int .i64 x.last, .str x.view, .dig x.commit, .slice t0 (x.pending.map pendV), .int .i64 x.vnum, .str x.value, .dig x.data, .str x.seen, .dig x.seenTag]
abbrev repV (t0 : Tk) (x : Rep) : AV := .agg (repPs t0 x)
theorem repPs_0 {t0 : Tk} {x : Rep} : (repPs t0 x)[0]? = some (.int .i64 x.num) := nr rfl
theorem repAt_0 {t0 : Tk} {x : Rep} {v : AV} : partIs Tryz.prog 45 (repPs t0 x) 0 v = fits Tryz.prog 3 v := by rw [partIs_of (o := 0) (T := 3) (by kernel_rfl)]; simp [repPs, AV.sizes, AV.size]
theorem repSet_0 {t0 : Tk} {x : Rep} {y : Int} : (repPs t0 x).set 0 (.int .i64 y) = repPs t0 { x with num := y } := nr rfl
theorem repPs_1 {t0 : Tk} {x : Rep} : (repPs t0 x)[1]? = some (.int .i64 x.last) := nr rfl
theorem repAt_1 {t0 : Tk} {x : Rep} {v : AV} : partIs Tryz.prog 45 (repPs t0 x) 1 v = fits Tryz.prog 3 v := by rw [partIs_of (o := 1) (T := 3) (by kernel_rfl)]; simp [repPs, AV.sizes, AV.size]
theorem repSet_1 {t0 : Tk} {x : Rep} {y : Int} : (repPs t0 x).set 1 (.int .i64 y) = repPs t0 { x with last := y } := nr rfl
theorem repPs_2 {t0 : Tk} {x : Rep} : (repPs t0 x)[2]? = some (.str x.view) := nr rfl
theorem repAt_2 {t0 : Tk} {x : Rep} {v : AV} : partIs Tryz.prog 45 (repPs t0 x) 2 v = fits Tryz.prog 9 v := by rw [partIs_of (o := 2) (T := 9) (by kernel_rfl)]; simp [repPs, AV.sizes, AV.size]
theorem repSet_2 {t0 : Tk} {x : Rep} {y : List UInt8} : (repPs t0 x).set 2 (.str y) = repPs t0 { x with view := y } := nr rfl
theorem repPs_3 {t0 : Tk} {x : Rep} : (repPs t0 x)[3]? = some (.dig x.commit) := nr rfl
theorem repAt_3 {t0 : Tk} {x : Rep} {v : AV} : partIs Tryz.prog 45 (repPs t0 x) 3 v = fits Tryz.prog 40 v := by rw [partIs_of (o := 3) (T := 40) (by kernel_rfl)]; simp [repPs, AV.sizes, AV.size]
theorem repSet_3 {t0 : Tk} {x : Rep} {y : Dig} : (repPs t0 x).set 3 (.dig y) = repPs t0 { x with commit := y } := nr rfl
theorem repPs_4 {t0 : Tk} {x : Rep} : (repPs t0 x)[4]? = some (.slice t0 (x.pending.map pendV)) := nr rfl
theorem repAt_4 {t0 : Tk} {x : Rep} {v : AV} : partIs Tryz.prog 45 (repPs t0 x) 4 v = fits Tryz.prog 43 v := by rw [partIs_of (o := 35) (T := 43) (by kernel_rfl)]; simp [repPs, AV.sizes, AV.size]
theorem repSet_4 {t0 : Tk} {u0 : Tk} {x : Rep} {y : List Pend} : (repPs t0 x).set 4 (.slice u0 (y.map pendV)) = repPs u0 { x with pending := y } := nr rfl
theorem repPs_5 {t0 : Tk} {x : Rep} : (repPs t0 x)[5]? = some (.int .i64 x.vnum) := nr rfl
theorem repAt_5 {t0 : Tk} {x : Rep} {v : AV} : partIs Tryz.prog 45 (repPs t0 x) 5 v = fits Tryz.prog 3 v := by rw [partIs_of (o := 36) (T := 3) (by kernel_rfl)]; simp [repPs, AV.sizes, AV.size]
theorem repSet_5 {t0 : Tk} {x : Rep} {y : Int} : (repPs t0 x).set 5 (.int .i64 y) = repPs t0 { x with vnum := y } := nr rfl
theorem repPs_6 {t0 : Tk} {x : Rep} : (repPs t0 x)[6]? = some (.str x.value) := nr rfl
theorem repAt_6 {t0 : Tk} {x : Rep} {v : AV} : partIs Tryz.prog 45 (repPs t0 x) 6 v = fits Tryz.prog 9 v := by rw [partIs_of (o := 37) (T := 9) (by kernel_rfl)]; simp [repPs, AV.sizes, AV.size]
theorem repSet_6 {t0 : Tk} {x : Rep} {y : List UInt8} : (repPs t0 x).set 6 (.str y) = repPs t0 { x with value := y } := nr rfl
theorem repPs_7 {t0 : Tk} {x : Rep} : (repPs t0 x)[7]? = some (.dig x.data) := nr rfl
theorem repAt_7 {t0 : Tk} {x : Rep} {v : AV} : partIs Tryz.prog 45 (repPs t0 x) 7 v = fits Tryz.prog 40 v := by rw [partIs_of (o := 38) (T := 40) (by kernel_rfl)]; simp [repPs, AV.sizes, AV.size]
theorem repSet_7 {t0 : Tk} {x : Rep} {y : Dig} : (repPs t0 x).set 7 (.dig y) = repPs t0 { x with data := y } := nr rfl
theorem repPs_8 {t0 : Tk} {x : Rep} : (repPs t0 x)[8]? = some (.str x.seen) := nr rfl
theorem repAt_8 {t0 : Tk} {x : Rep} {v : AV} : partIs Tryz.prog 45 (repPs t0 x) 8 v = fits Tryz.prog 9 v := by rw [partIs_of (o := 70) (T := 9) (by kernel_rfl)]; simp [repPs, AV.sizes, AV.size]
theorem repSet_8 {t0 : Tk} {x : Rep} {y : List UInt8} : (repPs t0 x).set 8 (.str y) = repPs t0 { x with seen := y } := nr rfl
theorem repPs_9 {t0 : Tk} {x : Rep} : (repPs t0 x)[9]? = some (.dig x.seenTag) := nr rfl
theorem repAt_9 {t0 : Tk} {x : Rep} {v : AV} : partIs Tryz.prog 45 (repPs t0 x) 9 v = fits Tryz.prog 40 v := by rw [partIs_of (o := 71) (T := 40) (by kernel_rfl)]; simp [repPs, AV.sizes, AV.size]
theorem repSet_9 {t0 : Tk} {x : Rep} {y : Dig} : (repPs t0 x).set 9 (.dig y) = repPs t0 { x with seenTag := y } := nr rfl
theorem sizes_rep {t0 : Tk} {x : Rep} : AV.sizes (repPs t0 x) = 103 := by simp [repPs, AV.sizes, AV.size]
theorem shapes_rep {t0 : Tk} {x : Rep} : AV.shapes (repPs t0 x) = [.leaf, .leaf, .leaf, .dig, .leaf, .leaf, .leaf, .dig, .leaf, .dig] := by simp [repPs, AV.shapes, AV.shape]
theorem fits_rep {v : AV} : fits Tryz.prog 45 v = (v.isAgg = true ∧ v.size = 103) := fits_agg (by kernel_rfl) (by kernel_rfl)
theorem zero_rep : zeroA Tryz.prog 12 45 = .agg (repPs .full rep0) := by kernel_rfl
theorem zt_rep : ZeroOf Tryz.prog 45 (.agg (repPs .full rep0)) = True := eq_true ⟨_, _, rfl, rfl, rfl, rfl, rfl⟩
theorem built_rep : Built Tryz.prog 45 = True := eq_true (by unfold Built; rw [Tryz.underlying45]; decide +kernel)
structure Blob where
  owner : Int
  num : Int
  cipher : List UInt8
  tag : Dig
def blob0 : Blob := ⟨0, 0, [], dig0⟩
def blobPs (x : Blob) : List AV := [.int .i64 x.owner, .int .i64 x.num, .str x.cipher, .dig x.tag]
abbrev blobV (x : Blob) : AV := .agg (blobPs x)
theorem blobPs_0 {x : Blob} : (blobPs x)[0]? = some (.int .i64 x.owner) := nr rfl
theorem blobAt_0 {x : Blob} {v : AV} : partIs Tryz.prog 47 (blobPs x) 0 v = fits Tryz.prog 3 v := by rw [partIs_of (o := 0) (T := 3) (by kernel_rfl)]; simp [blobPs, AV.sizes, AV.size]
theorem blobSet_0 {x : Blob} {y : Int} : (blobPs x).set 0 (.int .i64 y) = blobPs { x with owner := y } := nr rfl
theorem blobPs_1 {x : Blob} : (blobPs x)[1]? = some (.int .i64 x.num) := nr rfl
theorem blobAt_1 {x : Blob} {v : AV} : partIs Tryz.prog 47 (blobPs x) 1 v = fits Tryz.prog 3 v := by rw [partIs_of (o := 1) (T := 3) (by kernel_rfl)]; simp [blobPs, AV.sizes, AV.size]
theorem blobSet_1 {x : Blob} {y : Int} : (blobPs x).set 1 (.int .i64 y) = blobPs { x with num := y } := nr rfl
theorem blobPs_2 {x : Blob} : (blobPs x)[2]? = some (.str x.cipher) := nr rfl
theorem blobAt_2 {x : Blob} {v : AV} : partIs Tryz.prog 47 (blobPs x) 2 v = fits Tryz.prog 9 v := by rw [partIs_of (o := 2) (T := 9) (by kernel_rfl)]; simp [blobPs, AV.sizes, AV.size]
theorem blobSet_2 {x : Blob} {y : List UInt8} : (blobPs x).set 2 (.str y) = blobPs { x with cipher := y } := nr rfl
theorem blobPs_3 {x : Blob} : (blobPs x)[3]? = some (.dig x.tag) := nr rfl
theorem blobAt_3 {x : Blob} {v : AV} : partIs Tryz.prog 47 (blobPs x) 3 v = fits Tryz.prog 40 v := by rw [partIs_of (o := 3) (T := 40) (by kernel_rfl)]; simp [blobPs, AV.sizes, AV.size]
theorem blobSet_3 {x : Blob} {y : Dig} : (blobPs x).set 3 (.dig y) = blobPs { x with tag := y } := nr rfl
theorem sizes_blob {x : Blob} : AV.sizes (blobPs x) = 35 := by simp [blobPs, AV.sizes, AV.size]
theorem shapes_blob {x : Blob} : AV.shapes (blobPs x) = [.leaf, .leaf, .leaf, .dig] := by simp [blobPs, AV.shapes, AV.shape]
theorem fits_blob {v : AV} : fits Tryz.prog 47 v = (v.isAgg = true ∧ v.size = 35) := fits_agg (by kernel_rfl) (by kernel_rfl)
theorem zero_blob : zeroA Tryz.prog 12 47 = .agg (blobPs blob0) := by kernel_rfl
theorem zt_blob : ZeroOf Tryz.prog 47 (.agg (blobPs blob0)) = True := eq_true ⟨_, _, rfl, rfl, rfl, rfl, rfl⟩
theorem built_blob : Built Tryz.prog 47 = True := eq_true (by unfold Built; rw [Tryz.underlying47]; decide +kernel)
theorem strip_blob {x : Blob} : AV.strips (blobPs x) = blobPs x := by simp [blobPs, AV.strips, AV.strip]
theorem noRef_blob {x : Blob} : AV.noRefs (blobPs x) = true := by simp [blobPs, AV.noRefs, AV.noRef]
structure Msg where
  kind : Int
  client : Int
  sub : Sub
  rep : Rep
  view : List UInt8
  by_ : Int
  tag : Dig
  own : Dig
  blob : Blob
  nums : List Int
def msg0 : Msg := ⟨0, 0, sub0, rep0, [], 0, dig0, dig0, blob0, []⟩
def msgPs (t0 t1 : Tk) (x : Msg) : List AV := [.int .i64 x.kind, .int .i64 x.client, .agg (subPs x.sub), .agg (repPs t0 x.rep), .str x.view, .int .i64 x.by_, .dig x.tag, .dig x.own, .agg (blobPs x.blob), .slice t1 (x.nums.map (AV.int .i64))]
abbrev msgV (t0 t1 : Tk) (x : Msg) : AV := .agg (msgPs t0 t1 x)
theorem msgPs_0 {t0 t1 : Tk} {x : Msg} : (msgPs t0 t1 x)[0]? = some (.int .i64 x.kind) := nr rfl
theorem msgAt_0 {t0 t1 : Tk} {x : Msg} {v : AV} : partIs Tryz.prog 49 (msgPs t0 t1 x) 0 v = fits Tryz.prog 3 v := by rw [partIs_of (o := 0) (T := 3) (by kernel_rfl)]; simp [msgPs, AV.sizes, AV.size]
theorem msgSet_0 {t0 t1 : Tk} {x : Msg} {y : Int} : (msgPs t0 t1 x).set 0 (.int .i64 y) = msgPs t0 t1 { x with kind := y } := nr rfl
theorem msgPs_1 {t0 t1 : Tk} {x : Msg} : (msgPs t0 t1 x)[1]? = some (.int .i64 x.client) := nr rfl
theorem msgAt_1 {t0 t1 : Tk} {x : Msg} {v : AV} : partIs Tryz.prog 49 (msgPs t0 t1 x) 1 v = fits Tryz.prog 3 v := by rw [partIs_of (o := 1) (T := 3) (by kernel_rfl)]; simp [msgPs, AV.sizes, AV.size]
theorem msgSet_1 {t0 t1 : Tk} {x : Msg} {y : Int} : (msgPs t0 t1 x).set 1 (.int .i64 y) = msgPs t0 t1 { x with client := y } := nr rfl
theorem msgPs_2 {t0 t1 : Tk} {x : Msg} : (msgPs t0 t1 x)[2]? = some (.agg (subPs x.sub)) := nr rfl
theorem msgAt_2 {t0 t1 : Tk} {x : Msg} {v : AV} : partIs Tryz.prog 49 (msgPs t0 t1 x) 2 v = fits Tryz.prog 42 v := by rw [partIs_of (o := 2) (T := 42) (by kernel_rfl)]; simp [msgPs, AV.sizes, AV.size]
theorem msgSet_2 {t0 t1 : Tk} {x : Msg} {y : Sub} : (msgPs t0 t1 x).set 2 (.agg (subPs y)) = msgPs t0 t1 { x with sub := y } := nr rfl
theorem msgPs_3 {t0 t1 : Tk} {x : Msg} : (msgPs t0 t1 x)[3]? = some (.agg (repPs t0 x.rep)) := nr rfl
theorem msgAt_3 {t0 t1 : Tk} {x : Msg} {v : AV} : partIs Tryz.prog 49 (msgPs t0 t1 x) 3 v = fits Tryz.prog 45 v := by rw [partIs_of (o := 70) (T := 45) (by kernel_rfl)]; simp [msgPs, AV.sizes, AV.size, sizes_sub]
theorem msgSet_3 {t0 t1 : Tk} {u0 : Tk} {x : Msg} {y : Rep} : (msgPs t0 t1 x).set 3 (.agg (repPs u0 y)) = msgPs u0 t1 { x with rep := y } := nr rfl
theorem msgPs_4 {t0 t1 : Tk} {x : Msg} : (msgPs t0 t1 x)[4]? = some (.str x.view) := nr rfl
theorem msgAt_4 {t0 t1 : Tk} {x : Msg} {v : AV} : partIs Tryz.prog 49 (msgPs t0 t1 x) 4 v = fits Tryz.prog 9 v := by rw [partIs_of (o := 173) (T := 9) (by kernel_rfl)]; simp [msgPs, AV.sizes, AV.size, sizes_sub, sizes_rep]
theorem msgSet_4 {t0 t1 : Tk} {x : Msg} {y : List UInt8} : (msgPs t0 t1 x).set 4 (.str y) = msgPs t0 t1 { x with view := y } := nr rfl
theorem msgPs_5 {t0 t1 : Tk} {x : Msg} : (msgPs t0 t1 x)[5]? = some (.int .i64 x.by_) := nr rfl
theorem msgAt_5 {t0 t1 : Tk} {x : Msg} {v : AV} : partIs Tryz.prog 49 (msgPs t0 t1 x) 5 v = fits Tryz.prog 3 v := by rw [partIs_of (o := 174) (T := 3) (by kernel_rfl)]; simp [msgPs, AV.sizes, AV.size, sizes_sub, sizes_rep]
theorem msgSet_5 {t0 t1 : Tk} {x : Msg} {y : Int} : (msgPs t0 t1 x).set 5 (.int .i64 y) = msgPs t0 t1 { x with by_ := y } := nr rfl
theorem msgPs_6 {t0 t1 : Tk} {x : Msg} : (msgPs t0 t1 x)[6]? = some (.dig x.tag) := nr rfl
theorem msgAt_6 {t0 t1 : Tk} {x : Msg} {v : AV} : partIs Tryz.prog 49 (msgPs t0 t1 x) 6 v = fits Tryz.prog 40 v := by rw [partIs_of (o := 175) (T := 40) (by kernel_rfl)]; simp [msgPs, AV.sizes, AV.size, sizes_sub, sizes_rep]
theorem msgSet_6 {t0 t1 : Tk} {x : Msg} {y : Dig} : (msgPs t0 t1 x).set 6 (.dig y) = msgPs t0 t1 { x with tag := y } := nr rfl
theorem msgPs_7 {t0 t1 : Tk} {x : Msg} : (msgPs t0 t1 x)[7]? = some (.dig x.own) := nr rfl
theorem msgAt_7 {t0 t1 : Tk} {x : Msg} {v : AV} : partIs Tryz.prog 49 (msgPs t0 t1 x) 7 v = fits Tryz.prog 40 v := by rw [partIs_of (o := 207) (T := 40) (by kernel_rfl)]; simp [msgPs, AV.sizes, AV.size, sizes_sub, sizes_rep]
theorem msgSet_7 {t0 t1 : Tk} {x : Msg} {y : Dig} : (msgPs t0 t1 x).set 7 (.dig y) = msgPs t0 t1 { x with own := y } := nr rfl
theorem msgPs_8 {t0 t1 : Tk} {x : Msg} : (msgPs t0 t1 x)[8]? = some (.agg (blobPs x.blob)) := nr rfl
theorem msgAt_8 {t0 t1 : Tk} {x : Msg} {v : AV} : partIs Tryz.prog 49 (msgPs t0 t1 x) 8 v = fits Tryz.prog 47 v := by rw [partIs_of (o := 239) (T := 47) (by kernel_rfl)]; simp [msgPs, AV.sizes, AV.size, sizes_sub, sizes_rep]
theorem msgSet_8 {t0 t1 : Tk} {x : Msg} {y : Blob} : (msgPs t0 t1 x).set 8 (.agg (blobPs y)) = msgPs t0 t1 { x with blob := y } := nr rfl
theorem msgPs_9 {t0 t1 : Tk} {x : Msg} : (msgPs t0 t1 x)[9]? = some (.slice t1 (x.nums.map (AV.int .i64))) := nr rfl
theorem msgAt_9 {t0 t1 : Tk} {x : Msg} {v : AV} : partIs Tryz.prog 49 (msgPs t0 t1 x) 9 v = fits Tryz.prog 25 v := by rw [partIs_of (o := 274) (T := 25) (by kernel_rfl)]; simp [msgPs, AV.sizes, AV.size, sizes_sub, sizes_rep, sizes_blob]
theorem msgSet_9 {t0 t1 : Tk} {u0 : Tk} {x : Msg} {y : List Int} : (msgPs t0 t1 x).set 9 (.slice u0 (y.map (AV.int .i64))) = msgPs t0 u0 { x with nums := y } := nr rfl
theorem sizes_msg {t0 t1 : Tk} {x : Msg} : AV.sizes (msgPs t0 t1 x) = 275 := by simp [msgPs, AV.sizes, AV.size, sizes_sub, sizes_rep, sizes_blob]
theorem shapes_msg {t0 t1 : Tk} {x : Msg} : AV.shapes (msgPs t0 t1 x) = [.leaf, .leaf, .node [.leaf, .leaf, .leaf, .leaf, .dig, .dig], .node [.leaf, .leaf, .leaf, .dig, .leaf, .leaf, .leaf, .dig, .leaf, .dig], .leaf, .leaf, .dig, .dig, .node [.leaf, .leaf, .leaf, .dig], .leaf] := by simp [msgPs, AV.shapes, AV.shape, shapes_sub, shapes_rep, shapes_blob]
theorem fits_msg {v : AV} : fits Tryz.prog 49 v = (v.isAgg = true ∧ v.size = 275) := fits_agg (by kernel_rfl) (by kernel_rfl)
theorem zero_msg : zeroA Tryz.prog 12 49 = .agg (msgPs .full .full msg0) := by kernel_rfl
theorem zt_msg : ZeroOf Tryz.prog 49 (.agg (msgPs .full .full msg0)) = True := eq_true ⟨_, _, rfl, rfl, rfl, rfl, rfl⟩
theorem built_msg : Built Tryz.prog 49 = True := eq_true (by unfold Built; rw [Tryz.underlying49]; decide +kernel)
structure At where
  n : Int
  e : Int
def at_0 : At := ⟨0, 0⟩
def at_Ps (x : At) : List AV := [.int .i64 x.n, .int .i64 x.e]
abbrev at_V (x : At) : AV := .agg (at_Ps x)
theorem at_Ps_0 {x : At} : (at_Ps x)[0]? = some (.int .i64 x.n) := nr rfl
theorem at_At_0 {x : At} {v : AV} : partIs Tryz.prog 62 (at_Ps x) 0 v = fits Tryz.prog 3 v := by rw [partIs_of (o := 0) (T := 3) (by kernel_rfl)]; simp [at_Ps, AV.sizes, AV.size]
theorem at_Set_0 {x : At} {y : Int} : (at_Ps x).set 0 (.int .i64 y) = at_Ps { x with n := y } := nr rfl
theorem at_Ps_1 {x : At} : (at_Ps x)[1]? = some (.int .i64 x.e) := nr rfl
theorem at_At_1 {x : At} {v : AV} : partIs Tryz.prog 62 (at_Ps x) 1 v = fits Tryz.prog 50 v := by rw [partIs_of (o := 1) (T := 50) (by kernel_rfl)]; simp [at_Ps, AV.sizes, AV.size]
theorem at_Set_1 {x : At} {y : Int} : (at_Ps x).set 1 (.int .i64 y) = at_Ps { x with e := y } := nr rfl
theorem sizes_at_ {x : At} : AV.sizes (at_Ps x) = 2 := by simp [at_Ps, AV.sizes, AV.size]
theorem shapes_at_ {x : At} : AV.shapes (at_Ps x) = [.leaf, .leaf] := by simp [at_Ps, AV.shapes, AV.shape]
theorem fits_at_ {v : AV} : fits Tryz.prog 62 v = (v.isAgg = true ∧ v.size = 2) := fits_agg (by kernel_rfl) (by kernel_rfl)
theorem zero_at_ : zeroA Tryz.prog 12 62 = .agg (at_Ps at_0) := by kernel_rfl
theorem zt_at_ : ZeroOf Tryz.prog 62 (.agg (at_Ps at_0)) = True := eq_true ⟨_, _, rfl, rfl, rfl, rfl, rfl⟩
theorem built_at_ : Built Tryz.prog 62 = True := eq_true (by unfold Built; rw [Tryz.underlying62]; decide +kernel)
theorem strip_at_ {x : At} : AV.strips (at_Ps x) = at_Ps x := by simp [at_Ps, AV.strips, AV.strip]
theorem noRef_at_ {x : At} : AV.noRefs (at_Ps x) = true := by simp [at_Ps, AV.noRefs, AV.noRef]
end Go.Aff.L10

/- Walking: arrays of bytes in memory as slices: as a text, copied into. -/
namespace Go.Aff
set_option linter.unusedVariables false
set_option linter.unusedSimpArgs false

variable {P : Program} {σ σ' : AST} {K : AV → AST → Prop} {KV : AV → Prop}

section
variable {dst : Option Nat} {ty : TypeId} {pos : String} {after : Array Edge} {gd : Option (Nat × Bool)} {ρ : Operand → AV}
theorem op_copy {x y : Operand} {ts : Array TypeId} : opW P ρ ⟨dst, .call ⟨.builtin .copy, #[x, y], ts⟩, ty, pos, after, gd⟩ σ K = copyW P ts (ρ x) (ρ y) σ K := nr rfl
end
def convA (o : Option AV) (K : AV → Prop) : Prop := match o with
  | some (.dig d) => K (.str d.l)
  | _ => False
theorem convA_dig {d : Dig} : convA (some (.dig d)) KV = KV (.str d.l) := nr rfl
theorem conv_arr {s d : TypeId} (hs : isSliceT P s = true) (he : P.underlying (elemT P s) = some (.int .u8)) (hd : P.underlying d = some .string) {i : Nat} {p : List Nat} : convW P s d (.arr i p 32) σ K = convA (cellAt σ i p) (At K σ) := by
  have hs := isSliceT_iff hs
  simp only [convW, cellAt]
  cases h : σ.objs[i]? with
  | none => simp [convA]
  | some o =>
    cases o with
    | cells v =>
      simp only [Option.bind_some, objCell]
      cases h2 : v.at p with
      | none => simp [convA]
      | some x =>
        cases x <;> simp only [convA]
        rename_i dg
        simp only [eq_iff_iff, true_and]
        constructor
        · rintro ⟨_, _, _, _, h⟩; exact h
        · intro h; exact ⟨_, hs, he, hd, h⟩
    | _ => simp [objCell, convA]
/-- Thirty-two bytes into a digest. -/
theorem copy_dig {t u e : TypeId} (hu : P.underlying t = some (.slice e)) (hc : P.cellsOf e = 1) (he : ∃ u, P.underlying e = some u) {i : Nat} {l : List UInt8} {dg : Dig} (ho : σ.objs[i]? = some (.cells (.dig dg))) (hl : l.length = 32)
    (hK : K (.int .i64 32) (σ.set i (.cells (.dig ⟨l, hl⟩)))) : copyW P ⟨[t, u]⟩ (.arr i [] 32) (.str l) σ K := by
  refine ⟨t, e, rfl, hu, hc, he, ?_⟩
  simp only [ho, at_nil]
  refine ⟨trivial, hl, by simp [setOk], ?_⟩
  simpa [AV.setAt] using hK
attribute [go_sem ↓] op_copy
attribute [go_sem] convA_dig
theorem bool_end {b c : Bool} (hK : K (.bool c) σ) (h : b = c) : K (.bool b) σ := h ▸ hK
theorem bool_endX {s : AST} {b c : Bool} (hx : Ext σ s) (hK : K (.bool c) σ) (h : b = c) : Ext σ s ∧ (AV.bool b).noRef = true ∧ K (AV.bool b).strip σ := ⟨hx, rfl, by subst h; simpa [AV.strip] using hK⟩
theorem bool_endD {b : Bool} {Q : Prop} {d : Decidable Q} (hK : K (.bool (@decide Q d)) σ) (h : b = true ↔ Q) : K (.bool b) σ := by
  have : b = @decide Q d := by rw [Bool.eq_iff_iff, decide_eq_true_eq]; exact h
  exact this ▸ hK
theorem bool_endDX {s : AST} {b : Bool} {Q : Prop} {d : Decidable Q} (hx : Ext σ s) (hK : K (.bool (@decide Q d)) σ) (h : b = true ↔ Q) : Ext σ s ∧ (AV.bool b).noRef = true ∧ K (AV.bool b).strip σ := ⟨hx, rfl, by simpa [AV.strip] using bool_endD hK h⟩
theorem get_pred {α : Type} {l : List α} {i : Nat} {y : α} (h : l[i]? = some y) (h0 : 0 < i) : l[i - 1]? = some (l[i - 1]'(by have := (List.getElem?_eq_some_iff.1 h).1; omega)) := List.getElem?_eq_getElem _
theorem nth_pred {α : Type} {l : List α} {i : Nat} {y : α} {F : α → Prop} (h : l[i]? = some y) (h0 : 0 < i) (hF : F (l[i - 1]'(by have := (List.getElem?_eq_some_iff.1 h).1; omega))) : nthW l ((i : Int) - 1) (@LamA _ ⟨F⟩) := by
  rw [show (i : Int) - 1 = ((i - 1 : Nat) : Int) by omega]; exact nth_get (get_pred h h0) hF
theorem keeps_cons {k : Nat} {ks : List Nat} : keeps (k :: ks) σ σ' = (σ'.objs[k]? = σ.objs[k]? ∧ keeps ks σ σ') := by simp [keeps]
theorem keeps_go {ks : List Nat} {R : Prop} (h : keeps ks σ σ') (hR : R) : @Later ⟨keeps ks σ σ' ∧ R⟩ := ⟨h, hR⟩
theorem reads_pick {ρ : Operand → AV} {a b c : Operand} : reads ρ (.pick a b c) = [] := rfl
theorem reads_makeFunc {ρ : Operand → AV} {f : Fn} {a b : Array Operand} : reads ρ (.makeFunc f a b) = [] := rfl
theorem reads_makeInterface {ρ : Operand → AV} {t : TypeId} {x : Operand} : reads ρ (.makeInterface t x) = [] := rfl
attribute [go_sem] reads_pick reads_makeFunc reads_makeInterface
/-- A loop over places. -/
theorem get_of_lt {α : Type} {l : List α} {i : Nat} (h : i < l.length) : ∃ y, l[i]? = some y ∧ y ∈ l := ⟨l[i], List.getElem?_eq_getElem h, List.getElem_mem h⟩
end Go.Aff

/- Layer 10: structs compared. -/
namespace Go.Aff.L10
open Go.Proofs Go.Aff Go.Aff.L01 Classical
set_option linter.unusedVariables false
set_option linter.unusedSimpArgs false
set_option maxRecDepth 20000
theorem dig_ext {a b : Dig} : a.l = b.l ↔ a = b := by
  cases a; cases b; simp
theorem eq_int3 {n : Nat} {a b : Int} : eqA Tryz.prog (n + 1) 3 (.int .i64 a) (.int .i64 b) = some (a == b) := by
  simp [eqA, Tryz.underlying3]
theorem eq_str9 {n : Nat} {a b : List UInt8} : eqA Tryz.prog (n + 1) 9 (.str a) (.str b) = some (a == b) := by
  simp [eqA, Tryz.underlying9]
theorem eq_dig23 {n : Nat} {a b : Dig} : eqA Tryz.prog (n + 4) 40 (.dig a) (.dig b) = some (a.l == b.l) := by
  have h : digT Tryz.prog 40 = true := by kernel_rfl
  obtain ⟨_, e, h2, h3, h4⟩ := digT_iff h
  simp [eqA, h2, h3, h4]
theorem eqAs_cons {n i : Nat} {t : TypeId} {f : Field} {fs : List Field} {x y : AV} {xs ys ax ay : List AV} (h : (f.name ≠ "_" ∧ f.offset = AV.sizes (ax.take i) ∧ f.offset = AV.sizes (ay.take i) ∧ aggT Tryz.prog f.type = some x.isAgg ∧ Tryz.prog.cellsOf f.type = x.size ∧ aggT Tryz.prog f.type = some y.isAgg ∧ Tryz.prog.cellsOf f.type = y.size)) {b : Bool} (hb : eqA Tryz.prog n f.type x y = some b) :
    eqAs Tryz.prog (n + 1) t i (f :: fs) (x :: xs) (y :: ys) ax ay = if b = true then eqAs Tryz.prog n t (i + 1) fs xs ys ax ay else some false := by
  simp only [eqAs]
  rw [if_pos h, hb]
  cases b <;> rfl
theorem eq_sub {a b : Sub} : eqA Tryz.prog 40 42 (.agg (subPs a)) (.agg (subPs b)) = some (decide (a = b)) := by
  have hs : Tryz.prog.stoodInHeld 42 = false := by kernel_rfl
  simp only [eqA, Tryz.underlying42, hs, if_true]
  unfold subPs
  rw [eqAs_cons ⟨by decide, by simp [AV.sizes, AV.size], by simp [AV.sizes, AV.size], by kernel_rfl, by simp [AV.size]; kernel_rfl, by kernel_rfl, by simp [AV.size]; kernel_rfl⟩ eq_int3]
  refine (Classical.em (a.num = b.num)).elim (fun h0 => ?_) (fun h0 => by rw [if_neg (by simpa [dig_ext] using h0), decide_eq_false (fun e => h0 (congrArg Sub.num e))])
  rw [if_pos (by simpa [dig_ext] using h0)]
  rw [eqAs_cons ⟨by decide, by simp [AV.sizes, AV.size], by simp [AV.sizes, AV.size], by kernel_rfl, by simp [AV.size]; kernel_rfl, by kernel_rfl, by simp [AV.size]; kernel_rfl⟩ eq_int3]
  refine (Classical.em (a.kind = b.kind)).elim (fun h1 => ?_) (fun h1 => by rw [if_neg (by simpa [dig_ext] using h1), decide_eq_false (fun e => h1 (congrArg Sub.kind e))])
  rw [if_pos (by simpa [dig_ext] using h1)]
  rw [eqAs_cons ⟨by decide, by simp [AV.sizes, AV.size], by simp [AV.sizes, AV.size], by kernel_rfl, by simp [AV.size]; kernel_rfl, by kernel_rfl, by simp [AV.size]; kernel_rfl⟩ eq_int3]
  refine (Classical.em (a.target = b.target)).elim (fun h2 => ?_) (fun h2 => by rw [if_neg (by simpa [dig_ext] using h2), decide_eq_false (fun e => h2 (congrArg Sub.target e))])
  rw [if_pos (by simpa [dig_ext] using h2)]
  rw [eqAs_cons ⟨by decide, by simp [AV.sizes, AV.size], by simp [AV.sizes, AV.size], by kernel_rfl, by simp [AV.size]; kernel_rfl, by kernel_rfl, by simp [AV.size]; kernel_rfl⟩ eq_str9]
  refine (Classical.em (a.value = b.value)).elim (fun h3 => ?_) (fun h3 => by rw [if_neg (by simpa [dig_ext] using h3), decide_eq_false (fun e => h3 (congrArg Sub.value e))])
  rw [if_pos (by simpa [dig_ext] using h3)]
  rw [eqAs_cons ⟨by decide, by simp [AV.sizes, AV.size], by simp [AV.sizes, AV.size], by kernel_rfl, by simp [AV.size]; kernel_rfl, by kernel_rfl, by simp [AV.size]; kernel_rfl⟩ eq_dig23]
  refine (Classical.em (a.asked = b.asked)).elim (fun h4 => ?_) (fun h4 => by rw [if_neg (by simpa [dig_ext] using h4), decide_eq_false (fun e => h4 (congrArg Sub.asked e))])
  rw [if_pos (by simpa [dig_ext] using h4)]
  rw [eqAs_cons ⟨by decide, by simp [AV.sizes, AV.size], by simp [AV.sizes, AV.size], by kernel_rfl, by simp [AV.size]; kernel_rfl, by kernel_rfl, by simp [AV.size]; kernel_rfl⟩ eq_dig23]
  refine (Classical.em (a.data = b.data)).elim (fun h5 => ?_) (fun h5 => by rw [if_neg (by simpa [dig_ext] using h5), decide_eq_false (fun e => h5 (congrArg Sub.data e))])
  rw [if_pos (by simpa [dig_ext] using h5)]
  rw [decide_eq_true (by cases a; cases b; simp_all)]; simp only [eqAs]
theorem bin_sub_eql {a b : Sub} {KV : AV → Prop} : binW Tryz.prog .eql 42 (.agg (subPs a)) (.agg (subPs b)) KV = KV (.bool (decide (a = b))) := by
  have h : Tryz.prog.eqGuardType Tryz.prog.depth 42 = false := by kernel_rfl
  simp [binW, eqW, eq_sub, h]
theorem bin_sub_neq {a b : Sub} {KV : AV → Prop} : binW Tryz.prog .neq 42 (.agg (subPs a)) (.agg (subPs b)) KV = KV (.bool !(decide (a = b))) := by
  have h : Tryz.prog.eqGuardType Tryz.prog.depth 42 = false := by kernel_rfl
  simp [binW, eqW, eq_sub, h]
theorem eq_pend {a b : Pend} : eqA Tryz.prog 40 104 (.agg (pendPs a)) (.agg (pendPs b)) = some (decide (a = b)) := by
  have hs : Tryz.prog.stoodInHeld 104 = false := by kernel_rfl
  simp only [eqA, Tryz.underlying104, hs, if_true]
  unfold pendPs
  rw [eqAs_cons ⟨by decide, by simp [AV.sizes, AV.size], by simp [AV.sizes, AV.size], by kernel_rfl, by simp [AV.size]; kernel_rfl, by kernel_rfl, by simp [AV.size]; kernel_rfl⟩ eq_int3]
  refine (Classical.em (a.client = b.client)).elim (fun h0 => ?_) (fun h0 => by rw [if_neg (by simpa [dig_ext] using h0), decide_eq_false (fun e => h0 (congrArg Pend.client e))])
  rw [if_pos (by simpa [dig_ext] using h0)]
  rw [eqAs_cons ⟨by decide, by simp [AV.sizes, AV.size], by simp [AV.sizes, AV.size], by kernel_rfl, by simp [AV.size]; kernel_rfl, by kernel_rfl, by simp [AV.size]; kernel_rfl⟩ eq_int3]
  refine (Classical.em (a.num = b.num)).elim (fun h1 => ?_) (fun h1 => by rw [if_neg (by simpa [dig_ext] using h1), decide_eq_false (fun e => h1 (congrArg Pend.num e))])
  rw [if_pos (by simpa [dig_ext] using h1)]
  rw [eqAs_cons ⟨by decide, by simp [AV.sizes, AV.size], by simp [AV.sizes, AV.size], by kernel_rfl, by simp [AV.size]; kernel_rfl, by kernel_rfl, by simp [AV.size]; kernel_rfl⟩ eq_int3]
  refine (Classical.em (a.kind = b.kind)).elim (fun h2 => ?_) (fun h2 => by rw [if_neg (by simpa [dig_ext] using h2), decide_eq_false (fun e => h2 (congrArg Pend.kind e))])
  rw [if_pos (by simpa [dig_ext] using h2)]
  rw [eqAs_cons ⟨by decide, by simp [AV.sizes, AV.size], by simp [AV.sizes, AV.size], by kernel_rfl, by simp [AV.size]; kernel_rfl, by kernel_rfl, by simp [AV.size]; kernel_rfl⟩ eq_int3]
  refine (Classical.em (a.target = b.target)).elim (fun h3 => ?_) (fun h3 => by rw [if_neg (by simpa [dig_ext] using h3), decide_eq_false (fun e => h3 (congrArg Pend.target e))])
  rw [if_pos (by simpa [dig_ext] using h3)]
  rw [eqAs_cons ⟨by decide, by simp [AV.sizes, AV.size], by simp [AV.sizes, AV.size], by kernel_rfl, by simp [AV.size]; kernel_rfl, by kernel_rfl, by simp [AV.size]; kernel_rfl⟩ eq_dig23]
  refine (Classical.em (a.asked = b.asked)).elim (fun h4 => ?_) (fun h4 => by rw [if_neg (by simpa [dig_ext] using h4), decide_eq_false (fun e => h4 (congrArg Pend.asked e))])
  rw [if_pos (by simpa [dig_ext] using h4)]
  rw [eqAs_cons ⟨by decide, by simp [AV.sizes, AV.size], by simp [AV.sizes, AV.size], by kernel_rfl, by simp [AV.size]; kernel_rfl, by kernel_rfl, by simp [AV.size]; kernel_rfl⟩ eq_dig23]
  refine (Classical.em (a.proof = b.proof)).elim (fun h5 => ?_) (fun h5 => by rw [if_neg (by simpa [dig_ext] using h5), decide_eq_false (fun e => h5 (congrArg Pend.proof e))])
  rw [if_pos (by simpa [dig_ext] using h5)]
  rw [decide_eq_true (by cases a; cases b; simp_all)]; simp only [eqAs]
theorem bin_pend_eql {a b : Pend} {KV : AV → Prop} : binW Tryz.prog .eql 104 (.agg (pendPs a)) (.agg (pendPs b)) KV = KV (.bool (decide (a = b))) := by
  have h : Tryz.prog.eqGuardType Tryz.prog.depth 104 = false := by kernel_rfl
  simp [binW, eqW, eq_pend, h]
theorem bin_pend_neq {a b : Pend} {KV : AV → Prop} : binW Tryz.prog .neq 104 (.agg (pendPs a)) (.agg (pendPs b)) KV = KV (.bool !(decide (a = b))) := by
  have h : Tryz.prog.eqGuardType Tryz.prog.depth 104 = false := by kernel_rfl
  simp [binW, eqW, eq_pend, h]
theorem eq_blob {a b : Blob} : eqA Tryz.prog 40 47 (.agg (blobPs a)) (.agg (blobPs b)) = some (decide (a = b)) := by
  have hs : Tryz.prog.stoodInHeld 47 = false := by kernel_rfl
  simp only [eqA, Tryz.underlying47, hs, if_true]
  unfold blobPs
  rw [eqAs_cons ⟨by decide, by simp [AV.sizes, AV.size], by simp [AV.sizes, AV.size], by kernel_rfl, by simp [AV.size]; kernel_rfl, by kernel_rfl, by simp [AV.size]; kernel_rfl⟩ eq_int3]
  refine (Classical.em (a.owner = b.owner)).elim (fun h0 => ?_) (fun h0 => by rw [if_neg (by simpa [dig_ext] using h0), decide_eq_false (fun e => h0 (congrArg Blob.owner e))])
  rw [if_pos (by simpa [dig_ext] using h0)]
  rw [eqAs_cons ⟨by decide, by simp [AV.sizes, AV.size], by simp [AV.sizes, AV.size], by kernel_rfl, by simp [AV.size]; kernel_rfl, by kernel_rfl, by simp [AV.size]; kernel_rfl⟩ eq_int3]
  refine (Classical.em (a.num = b.num)).elim (fun h1 => ?_) (fun h1 => by rw [if_neg (by simpa [dig_ext] using h1), decide_eq_false (fun e => h1 (congrArg Blob.num e))])
  rw [if_pos (by simpa [dig_ext] using h1)]
  rw [eqAs_cons ⟨by decide, by simp [AV.sizes, AV.size], by simp [AV.sizes, AV.size], by kernel_rfl, by simp [AV.size]; kernel_rfl, by kernel_rfl, by simp [AV.size]; kernel_rfl⟩ eq_str9]
  refine (Classical.em (a.cipher = b.cipher)).elim (fun h2 => ?_) (fun h2 => by rw [if_neg (by simpa [dig_ext] using h2), decide_eq_false (fun e => h2 (congrArg Blob.cipher e))])
  rw [if_pos (by simpa [dig_ext] using h2)]
  rw [eqAs_cons ⟨by decide, by simp [AV.sizes, AV.size], by simp [AV.sizes, AV.size], by kernel_rfl, by simp [AV.size]; kernel_rfl, by kernel_rfl, by simp [AV.size]; kernel_rfl⟩ eq_dig23]
  refine (Classical.em (a.tag = b.tag)).elim (fun h3 => ?_) (fun h3 => by rw [if_neg (by simpa [dig_ext] using h3), decide_eq_false (fun e => h3 (congrArg Blob.tag e))])
  rw [if_pos (by simpa [dig_ext] using h3)]
  rw [decide_eq_true (by cases a; cases b; simp_all)]; simp only [eqAs]
theorem bin_blob_eql {a b : Blob} {KV : AV → Prop} : binW Tryz.prog .eql 47 (.agg (blobPs a)) (.agg (blobPs b)) KV = KV (.bool (decide (a = b))) := by
  have h : Tryz.prog.eqGuardType Tryz.prog.depth 47 = false := by kernel_rfl
  simp [binW, eqW, eq_blob, h]
theorem bin_blob_neq {a b : Blob} {KV : AV → Prop} : binW Tryz.prog .neq 47 (.agg (blobPs a)) (.agg (blobPs b)) KV = KV (.bool !(decide (a = b))) := by
  have h : Tryz.prog.eqGuardType Tryz.prog.depth 47 = false := by kernel_rfl
  simp [binW, eqW, eq_blob, h]
theorem fits4 {v : AV} : fits Tryz.prog 4 v = (v.isAgg = false ∧ v.size = 1) := fits_leaf (by kernel_rfl) (by kernel_rfl)
theorem fits5 {v : AV} : fits Tryz.prog 5 v = (v.isAgg = false ∧ v.size = 1) := fits_leaf (by kernel_rfl) (by kernel_rfl)
theorem fits26 {v : AV} : fits Tryz.prog 43 v = (v.isAgg = false ∧ v.size = 1) := fits_leaf (by kernel_rfl) (by kernel_rfl)
theorem fits31 {v : AV} : fits Tryz.prog 25 v = (v.isAgg = false ∧ v.size = 1) := fits_leaf (by kernel_rfl) (by kernel_rfl)
theorem fits34 {v : AV} : fits Tryz.prog 50 v = (v.isAgg = false ∧ v.size = 1) := fits_leaf (by kernel_rfl) (by kernel_rfl)
theorem fits52 {v : AV} : fits Tryz.prog 76 v = (v.isAgg = false ∧ v.size = 1) := fits_leaf (by kernel_rfl) (by kernel_rfl)
theorem fits23 {v : AV} : fits Tryz.prog 40 v = (v.isAgg = true ∧ v.size = 32) := fits_agg (by kernel_rfl) (by kernel_rfl)
theorem zero3 : zeroA Tryz.prog 12 3 = .int .i64 0 := by kernel_rfl
theorem zt3 : ZeroOf Tryz.prog 3 (.int .i64 0) = True := eq_true ⟨_, _, rfl, rfl, rfl, rfl, rfl⟩
theorem zero34 : zeroA Tryz.prog 12 50 = .int .i64 0 := by kernel_rfl
theorem zt34 : ZeroOf Tryz.prog 50 (.int .i64 0) = True := eq_true ⟨_, _, rfl, rfl, rfl, rfl, rfl⟩
theorem zero23 : zeroA Tryz.prog 12 40 = .dig dig0 := by kernel_rfl
theorem zt23 : ZeroOf Tryz.prog 40 (.dig dig0) = True := eq_true ⟨_, _, rfl, rfl, rfl, rfl, rfl⟩
theorem slice23 {σ : AST} {KV : AV → Prop} {j : Nat} {p : List Nat} : sliceW Tryz.prog 40 (.ptr (some (j, p))) none none none KV = KV (.arr j p 32) := by
  have hu : Tryz.prog.underlying 40 = some (.array 32 5) := Tryz.underlying40
  simp only [sliceW, bndW, arrOfT, hu, eq_iff_iff]
  constructor
  · rintro ⟨e, n, h, _, _, _, _, _, h2⟩
    rcases h with ⟨a, h, _⟩ | h
    · cases h
    · cases h; exact h2
  · intro h
    exact ⟨5, 32, .inr rfl, by decide, ⟨_, Tryz.underlying5⟩, rfl, rfl, Nat.le_refl _, h⟩
theorem Sub.iff {a b : Sub} : a = b ↔ a.num = b.num ∧ a.kind = b.kind ∧ a.target = b.target ∧ a.value = b.value ∧ a.asked = b.asked ∧ a.data = b.data := by cases a; cases b; simp
theorem Pend.iff {a b : Pend} : a = b ↔ a.client = b.client ∧ a.num = b.num ∧ a.kind = b.kind ∧ a.target = b.target ∧ a.asked = b.asked ∧ a.proof = b.proof := by cases a; cases b; simp
theorem Rep.iff {a b : Rep} : a = b ↔ a.num = b.num ∧ a.last = b.last ∧ a.view = b.view ∧ a.commit = b.commit ∧ a.pending = b.pending ∧ a.vnum = b.vnum ∧ a.value = b.value ∧ a.data = b.data ∧ a.seen = b.seen ∧ a.seenTag = b.seenTag := by cases a; cases b; simp
theorem Blob.iff {a b : Blob} : a = b ↔ a.owner = b.owner ∧ a.num = b.num ∧ a.cipher = b.cipher ∧ a.tag = b.tag := by cases a; cases b; simp
theorem Msg.iff {a b : Msg} : a = b ↔ a.kind = b.kind ∧ a.client = b.client ∧ a.sub = b.sub ∧ a.rep = b.rep ∧ a.view = b.view ∧ a.by_ = b.by_ ∧ a.tag = b.tag ∧ a.own = b.own ∧ a.blob = b.blob ∧ a.nums = b.nums := by cases a; cases b; simp
theorem bin_dig23_eql {KV : AV → Prop} {a b : Dig} : binW Tryz.prog .eql 40 (.dig a) (.dig b) KV = KV (.bool (a.l == b.l)) := bin_dig_eql (by kernel_rfl)
theorem bin_dig23_neq {KV : AV → Prop} {a b : Dig} : binW Tryz.prog .neq 40 (.dig a) (.dig b) KV = KV (.bool !(a.l == b.l)) := bin_dig_neq (by kernel_rfl)
end Go.Aff.L10

/- Layer 10, plainly: which messages may be, and their bytes. -/
namespace Go.Aff.L10
open Go.Proofs Go.Aff Go.Aff.L01 Classical
set_option linter.unusedVariables false

def In (lo hi n : Int) : Prop := lo ≤ n ∧ n ≤ hi
def ViewOk (k : Int) (h : List UInt8) : Prop := (∀ b ∈ h, (b.toNat : Int) < k) ∧ h.length ≤ 512 ∧ 1 ≤ k ∧ k ≤ 256
def Sub.Ok (x : Sub) : Prop := In 1 512 x.num ∧ In 1 2 x.kind ∧ In 0 7 x.target ∧ x.value.length ≤ 256
def Pend.Ok (p : Pend) : Prop := In 0 7 p.client ∧ In 0 7 p.target ∧ In 1 512 p.num ∧ In 1 2 p.kind
def Rep.Ok (x : Rep) : Prop := (∀ p ∈ x.pending, p.Ok) ∧ In 1 512 x.num ∧ In (-1) 7 x.last ∧ (x.view = [] ↔ x.last = -1) ∧ x.pending.length ≤ 8 ∧ ViewOk 8 x.view ∧ ViewOk 8 x.seen ∧ In 0 512 x.vnum ∧ x.value.length ≤ 256
def Blob.Ok (b : Blob) : Prop := In 0 7 b.owner ∧ In 0 1099511627776 b.num ∧ b.cipher.length ≤ 4096
def NumsOk (l : List Int) : Prop := (∀ (i : Nat) n, l[i]? = some n → In 0 1099511627776 n ∧ ∀ m, 0 < i → l[i - 1]? = some m → m < n) ∧ In 1 64 l.length
/-- A message with the fields of its kind alone. -/
def Msg.own_ (m : Msg) : Msg :=
  if m.kind = 1 then { msg0 with kind := m.kind, client := m.client, sub := m.sub }
  else if m.kind = 2 then { msg0 with kind := m.kind, client := 0, rep := m.rep }
  else if m.kind = 3 then { msg0 with kind := m.kind, client := m.client, view := m.view, tag := m.tag }
  else if m.kind = 4 ∨ m.kind = 6 then { msg0 with kind := m.kind, client := 0, blob := m.blob }
  else if m.kind = 5 ∨ m.kind = 7 ∨ m.kind = 8 then { msg0 with kind := m.kind, client := m.client, nums := m.nums }
  else if m.kind = 10 then { msg0 with kind := m.kind, client := m.client, by_ := m.by_, view := m.view, tag := m.tag, own := m.own }
  else if m.kind = 11 then { msg0 with kind := m.kind, client := m.client, own := m.own }
  else { msg0 with kind := m.kind, client := m.client }
def Msg.FieldsOk (m : Msg) : Prop :=
  if m.kind = 1 then m.sub.Ok
  else if m.kind = 2 then m.rep.Ok
  else if m.kind = 3 then m.view ≠ [] ∧ ViewOk 8 m.view
  else if m.kind = 4 ∨ m.kind = 6 then m.blob.Ok
  else if m.kind = 5 ∨ m.kind = 7 ∨ m.kind = 8 then NumsOk m.nums
  else if m.kind = 10 then In 0 7 m.by_ ∧ m.view ≠ [] ∧ ViewOk 8 m.view
  else m.kind = 9 ∨ m.kind = 11
def Msg.Ok (m : Msg) : Prop := m.FieldsOk ∧ In 0 7 m.client ∧ m.own_ = m
end Go.Aff.L10

/- Layer 10, walked: what may be: numbers, submits, blobs, views. -/
namespace Go.Aff.L10
open Go.Proofs Go.Aff Go.Aff.L01 Classical
set_option linter.unusedVariables false
set_option linter.unusedSimpArgs false
set_option maxRecDepth 20000
attribute [local go_sem] push_app app_app length_app cellAt_app cellAt_app0 set_app set_app0 objs_app objs_app0 List.cons_append List.nil_append List.length_cons List.length_nil List.getElem?_cons_zero List.getElem?_cons_succ List.set_cons_zero List.set_cons_succ List.length_map
attribute [-go_sem] cellAt_new
attribute [-simp] List.length_flatMap
attribute [local go_sem] Tryz.underlying3 Tryz.underlying4 Tryz.underlying5 Tryz.underlying9 Tryz.underlying39 Tryz.underlying40 Tryz.underlying43 Tryz.underlying25 Tryz.underlying50 Tryz.underlying76 subPs_0 subAt_0 subSet_0 subPs_1 subAt_1 subSet_1 subPs_2 subAt_2 subSet_2 subPs_3 subAt_3 subSet_3 subPs_4 subAt_4 subSet_4 subPs_5 subAt_5 subSet_5 sizes_sub shapes_sub fits_sub zero_sub zt_sub built_sub Tryz.underlying42 pendPs_0 pendAt_0 pendSet_0 pendPs_1 pendAt_1 pendSet_1 pendPs_2 pendAt_2 pendSet_2 pendPs_3 pendAt_3 pendSet_3 pendPs_4 pendAt_4 pendSet_4 pendPs_5 pendAt_5 pendSet_5 sizes_pend shapes_pend fits_pend zero_pend zt_pend built_pend Tryz.underlying104 repPs_0 repAt_0 repSet_0 repPs_1 repAt_1 repSet_1 repPs_2 repAt_2 repSet_2 repPs_3 repAt_3 repSet_3 repPs_4 repAt_4 repSet_4 repPs_5 repAt_5 repSet_5 repPs_6 repAt_6 repSet_6 repPs_7 repAt_7 repSet_7 repPs_8 repAt_8 repSet_8 repPs_9 repAt_9 repSet_9 sizes_rep shapes_rep fits_rep zero_rep zt_rep built_rep Tryz.underlying45 blobPs_0 blobAt_0 blobSet_0 blobPs_1 blobAt_1 blobSet_1 blobPs_2 blobAt_2 blobSet_2 blobPs_3 blobAt_3 blobSet_3 sizes_blob shapes_blob fits_blob zero_blob zt_blob built_blob Tryz.underlying47 msgPs_0 msgAt_0 msgSet_0 msgPs_1 msgAt_1 msgSet_1 msgPs_2 msgAt_2 msgSet_2 msgPs_3 msgAt_3 msgSet_3 msgPs_4 msgAt_4 msgSet_4 msgPs_5 msgAt_5 msgSet_5 msgPs_6 msgAt_6 msgSet_6 msgPs_7 msgAt_7 msgSet_7 msgPs_8 msgAt_8 msgSet_8 msgPs_9 msgAt_9 msgSet_9 sizes_msg shapes_msg fits_msg zero_msg zt_msg built_msg Tryz.underlying49 at_Ps_0 at_At_0 at_Set_0 at_Ps_1 at_At_1 at_Set_1 sizes_at_ shapes_at_ fits_at_ zero_at_ zt_at_ built_at_ Tryz.underlying62
attribute [local go_sem] fits3 fits4 fits5 fits9 fits23 fits26 fits31 fits34 fits52 zt3 zero3 zt34 zero34 zt23 zero23 bin_sub_eql bin_pend_eql bin_pend_neq bin_blob_eql bin_dig23_eql bin_dig23_neq slice23
attribute [local go_sem ↓] blockQ_exit2
attribute [local simp] dig_ext

theorem within_c {n lo hi : Int} {σ : AST} {K : AV → AST → Prop} (hK : K (.bool (decide (In lo hi n))) σ) : TCalls Tryz.prog 68 [.int .i64 n, .int .i64 lo, .int .i64 hi] σ K := by
  refine tcalls_walk Tryz.f68 _ [.tmp 6] Tryz.func68 rfl rfl rfl mixed (Nat.le_of_ble_eq_true rfl) rfl fun hlen => ?_
  repeat' (first | (simp -dsimp only [↓reduceIte, go_sem]) | (refine arr_intro fun _ => ?_) | (rw [wrap_i64 (by omega) (by omega)]) | (refine guardV_split (fun h => ?_) (fun h => ?_) <;> (try rw [h]) <;> (try simp at h) <;> (try (exfalso; omega))))
  all_goals (first | exact hK | (exfalso; omega) | (refine bool_endD hK ?_; simp_all [In] <;> fail) | (refine bool_endDX (Ext.app _ _) hK ?_; simp_all [In] <;> fail) | (refine bool_endDX (Ext.refl _) hK ?_; simp_all [In] <;> fail) | (refine bool_endDX hx hK ?_; simp_all [In] <;> fail) | (refine bool_endD hK ?_; simp [In]; omega) | (refine bool_endDX (Ext.app _ _) hK ?_; simp [In]; omega) | (refine bool_endDX (Ext.refl _) hK ?_; simp [In]; omega) | (refine bool_endDX hx hK ?_; simp [In]; omega) | (refine bool_endD hK ?_; simp_all [In]; omega) | (refine bool_endDX (Ext.app _ _) hK ?_; simp_all [In]; omega) | (refine bool_endDX (Ext.refl _) hK ?_; simp_all [In]; omega) | (refine bool_endDX hx hK ?_; simp_all [In]; omega) | (refine bool_endD hK ?_; simp_all [In] <;> omega) | (refine bool_endDX (Ext.app _ _) hK ?_; simp_all [In] <;> omega) | (refine bool_endDX (Ext.refl _) hK ?_; simp_all [In] <;> omega) | (refine bool_endDX hx hK ?_; simp_all [In] <;> omega))
theorem Within_c {n lo hi : Int} {σ : AST} {K : AV → AST → Prop} (hK : K (.bool (decide (In lo hi n))) σ) : TCalls Tryz.prog 22 [.int .i64 n, .int .i64 lo, .int .i64 hi] σ K := by
  refine tcalls_walk Tryz.f22 _ [.tmp 6] Tryz.func22 rfl rfl rfl mixed (Nat.le_of_ble_eq_true rfl) rfl fun hlen => ?_
  repeat' (first | (simp -dsimp only [↓reduceIte, go_sem]) | (refine arr_intro fun _ => ?_) | (rw [wrap_i64 (by omega) (by omega)]) | (refine guardV_split (fun h => ?_) (fun h => ?_) <;> (try rw [h]) <;> (try simp at h) <;> (try (exfalso; omega))))
  all_goals (first | exact hK | (exfalso; omega) | (refine bool_endD hK ?_; simp_all [In] <;> fail) | (refine bool_endDX (Ext.app _ _) hK ?_; simp_all [In] <;> fail) | (refine bool_endDX (Ext.refl _) hK ?_; simp_all [In] <;> fail) | (refine bool_endDX hx hK ?_; simp_all [In] <;> fail) | (refine bool_endD hK ?_; simp [In]; omega) | (refine bool_endDX (Ext.app _ _) hK ?_; simp [In]; omega) | (refine bool_endDX (Ext.refl _) hK ?_; simp [In]; omega) | (refine bool_endDX hx hK ?_; simp [In]; omega) | (refine bool_endD hK ?_; simp_all [In]; omega) | (refine bool_endDX (Ext.app _ _) hK ?_; simp_all [In]; omega) | (refine bool_endDX (Ext.refl _) hK ?_; simp_all [In]; omega) | (refine bool_endDX hx hK ?_; simp_all [In]; omega) | (refine bool_endD hK ?_; simp_all [In] <;> omega) | (refine bool_endDX (Ext.app _ _) hK ?_; simp_all [In] <;> omega) | (refine bool_endDX (Ext.refl _) hK ?_; simp_all [In] <;> omega) | (refine bool_endDX hx hK ?_; simp_all [In] <;> omega))
theorem client_c {n : Int} {σ : AST} {K : AV → AST → Prop} (hK : K (.bool (decide (In 0 7 n))) σ) : TCalls Tryz.prog 60 [.int .i64 n] σ K := by
  refine tcalls_walk Tryz.f60 _ [.tmp 2] Tryz.func60 rfl rfl rfl mixed (Nat.le_of_ble_eq_true rfl) rfl fun hlen => ?_
  repeat' (first | (simp -dsimp only [↓reduceIte, go_sem]) | (refine arr_intro fun _ => ?_) | (rw [wrap_i64 (by omega) (by omega)]) | (refine guardV_split (fun h => ?_) (fun h => ?_) <;> (try rw [h]) <;> (try simp at h) <;> (try (exfalso; omega))) | (refine within_c ?_))
  all_goals (first | exact hK | (exfalso; omega) | (refine bool_endD hK ?_; simp_all [In] <;> fail) | (refine bool_endDX (Ext.app _ _) hK ?_; simp_all [In] <;> fail) | (refine bool_endDX (Ext.refl _) hK ?_; simp_all [In] <;> fail) | (refine bool_endDX hx hK ?_; simp_all [In] <;> fail) | (refine bool_endD hK ?_; simp [In]; omega) | (refine bool_endDX (Ext.app _ _) hK ?_; simp [In]; omega) | (refine bool_endDX (Ext.refl _) hK ?_; simp [In]; omega) | (refine bool_endDX hx hK ?_; simp [In]; omega) | (refine bool_endD hK ?_; simp_all [In]; omega) | (refine bool_endDX (Ext.app _ _) hK ?_; simp_all [In]; omega) | (refine bool_endDX (Ext.refl _) hK ?_; simp_all [In]; omega) | (refine bool_endDX hx hK ?_; simp_all [In]; omega) | (refine bool_endD hK ?_; simp_all [In] <;> omega) | (refine bool_endDX (Ext.app _ _) hK ?_; simp_all [In] <;> omega) | (refine bool_endDX (Ext.refl _) hK ?_; simp_all [In] <;> omega) | (refine bool_endDX hx hK ?_; simp_all [In] <;> omega))
theorem number_c {n : Int} {σ : AST} {K : AV → AST → Prop} (hK : K (.bool (decide (In 1 512 n))) σ) : TCalls Tryz.prog 93 [.int .i64 n] σ K := by
  refine tcalls_walk Tryz.f93 _ [.tmp 2] Tryz.func93 rfl rfl rfl mixed (Nat.le_of_ble_eq_true rfl) rfl fun hlen => ?_
  repeat' (first | (simp -dsimp only [↓reduceIte, go_sem]) | (refine arr_intro fun _ => ?_) | (rw [wrap_i64 (by omega) (by omega)]) | (refine guardV_split (fun h => ?_) (fun h => ?_) <;> (try rw [h]) <;> (try simp at h) <;> (try (exfalso; omega))) | (refine within_c ?_))
  all_goals (first | exact hK | (exfalso; omega) | (refine bool_endD hK ?_; simp_all [In] <;> fail) | (refine bool_endDX (Ext.app _ _) hK ?_; simp_all [In] <;> fail) | (refine bool_endDX (Ext.refl _) hK ?_; simp_all [In] <;> fail) | (refine bool_endDX hx hK ?_; simp_all [In] <;> fail) | (refine bool_endD hK ?_; simp [In]; omega) | (refine bool_endDX (Ext.app _ _) hK ?_; simp [In]; omega) | (refine bool_endDX (Ext.refl _) hK ?_; simp [In]; omega) | (refine bool_endDX hx hK ?_; simp [In]; omega) | (refine bool_endD hK ?_; simp_all [In]; omega) | (refine bool_endDX (Ext.app _ _) hK ?_; simp_all [In]; omega) | (refine bool_endDX (Ext.refl _) hK ?_; simp_all [In]; omega) | (refine bool_endDX hx hK ?_; simp_all [In]; omega) | (refine bool_endD hK ?_; simp_all [In] <;> omega) | (refine bool_endDX (Ext.app _ _) hK ?_; simp_all [In] <;> omega) | (refine bool_endDX (Ext.refl _) hK ?_; simp_all [In] <;> omega) | (refine bool_endDX hx hK ?_; simp_all [In] <;> omega))
theorem kind_c {n : Int} {σ : AST} {K : AV → AST → Prop} (hK : K (.bool (decide (In 1 2 n))) σ) : TCalls Tryz.prog 94 [.int .i64 n] σ K := by
  refine tcalls_walk Tryz.f94 _ [.tmp 2] Tryz.func94 rfl rfl rfl mixed (Nat.le_of_ble_eq_true rfl) rfl fun hlen => ?_
  repeat' (first | (simp -dsimp only [↓reduceIte, go_sem]) | (refine arr_intro fun _ => ?_) | (rw [wrap_i64 (by omega) (by omega)]) | (refine guardV_split (fun h => ?_) (fun h => ?_) <;> (try rw [h]) <;> (try simp at h) <;> (try (exfalso; omega))))
  all_goals (first | exact hK | (exfalso; omega) | (refine bool_endD hK ?_; simp_all [In] <;> fail) | (refine bool_endDX (Ext.app _ _) hK ?_; simp_all [In] <;> fail) | (refine bool_endDX (Ext.refl _) hK ?_; simp_all [In] <;> fail) | (refine bool_endDX hx hK ?_; simp_all [In] <;> fail) | (refine bool_endD hK ?_; simp [In]; omega) | (refine bool_endDX (Ext.app _ _) hK ?_; simp [In]; omega) | (refine bool_endDX (Ext.refl _) hK ?_; simp [In]; omega) | (refine bool_endDX hx hK ?_; simp [In]; omega) | (refine bool_endD hK ?_; simp_all [In]; omega) | (refine bool_endDX (Ext.app _ _) hK ?_; simp_all [In]; omega) | (refine bool_endDX (Ext.refl _) hK ?_; simp_all [In]; omega) | (refine bool_endDX hx hK ?_; simp_all [In]; omega) | (refine bool_endD hK ?_; simp_all [In] <;> omega) | (refine bool_endDX (Ext.app _ _) hK ?_; simp_all [In] <;> omega) | (refine bool_endDX (Ext.refl _) hK ?_; simp_all [In] <;> omega) | (refine bool_endDX hx hK ?_; simp_all [In] <;> omega))
theorem histRight_c {h : List UInt8} {k : Int} {σ : AST} {K : AV → AST → Prop} (hK : K (.bool (decide (ViewOk k h))) σ) : TCalls Tryz.prog 95 [.str h, .int .i64 k] σ K := by
  refine tcalls_walk Tryz.f95 _ [.tmp 4] Tryz.func95 rfl rfl rfl mixed (Nat.le_of_ble_eq_true rfl) rfl fun hlen => ?_
  have hll : h.length ≤ 9223372036854775807 := hlen (.str h) (by simp)
  simp -dsimp only [↓reduceIte, go_sem]
  refine arr_intro fun _ => ?_
  simp -dsimp only [↓reduceIte, go_sem]
  refine awp_rounds (fun (i : Nat) τ s => s = σ ∧ i ≤ h.length ∧ (∀ (j : Nat) b, j < i → h[j]? = some b → (b.toNat : Int) < k) ∧ τ 0 = .str h ∧ τ 1 = .int .i64 k ∧ τ 7 = .int .i64 h.length ∧ τ 8 = .int .i64 i) (fun i => h.length - i) 0 ?_ ?_
  · refine ⟨rfl, by omega, fun j y h => by omega, ?_, ?_, ?_, ?_⟩ <;> (try simp only [go_sem]) <;> rfl
  · rintro i τ s ⟨rfl, hi, hall, t0, t1, t7, t8⟩
    simp -dsimp only [↓reduceIte, go_sem, t0, t1, t7, t8]
    refine boolW_split (fun hb => ?_) (fun hb => ?_)
    · have hb : i < h.length := by simp at hb; omega
      obtain ⟨y, hy, hm⟩ := get_of_lt hb
      have hy8 : (y.toNat : Int) < 256 := by have := y.toNat_lt; omega
      repeat' (first | (simp -dsimp only [↓reduceIte, go_sem, t0, t1, t7, t8]) | (refine arr_intro fun _ => ?_) | (rw [wrap_i64 (by omega) (by omega)]) | (refine guardV_split (fun h => ?_) (fun h => ?_) <;> (try rw [h]) <;> (try simp at h) <;> (try (exfalso; omega))) | (refine nth_get hy ?_))
      · exact bool_end hK (by
          rw [eq_comm, decide_eq_false_iff_not]
          intro hv; have := hv.1 y hm; omega)
      · refine later_intro ⟨i + 1, by omega, rfl, by omega, ?_, ?_, ?_, ?_, ?_⟩ <;> (try simp only [go_sem, t0, t1, t7, t8]) <;> (try rfl)
        intro j b hj hb'
        by_cases hji : j < i
        · exact hall j b hji hb'
        · obtain rfl : j = i := by omega
          rw [hy] at hb'; cases hb'; omega
    · have hb : i = h.length := by simp at hb; omega
      have ha : ∀ b ∈ h, (b.toNat : Int) < k := fun b hb2 => by
        obtain ⟨j, hj⟩ := List.mem_iff_getElem?.1 hb2
        exact hall j b (by have := (List.getElem?_eq_some_iff.1 hj).1; omega) hj
      repeat' (first | (simp -dsimp only [↓reduceIte, go_sem, t0, t1, t7, t8]) | (refine arr_intro fun _ => ?_) | (rw [wrap_i64 (by omega) (by omega)]) | (refine guardV_split (fun h => ?_) (fun h => ?_) <;> (try rw [h]) <;> (try simp at h) <;> (try (exfalso; omega))))
      all_goals exact bool_end hK (by rw [Bool.eq_iff_iff]; simp [ViewOk]; first | (intros; omega) | (constructor <;> intros <;> simp_all <;> omega) | (simp_all; omega))
theorem view_c {h : List UInt8} {σ : AST} {K : AV → AST → Prop} (hK : K (.bool (decide (ViewOk 8 h))) σ) : TCalls Tryz.prog 79 [.str h] σ K := by
  refine tcalls_walk Tryz.f79 _ [.tmp 2] Tryz.func79 rfl rfl rfl mixed (Nat.le_of_ble_eq_true rfl) rfl fun hlen => ?_
  repeat' (first | (simp -dsimp only [↓reduceIte, go_sem]) | (refine arr_intro fun _ => ?_) | (rw [wrap_i64 (by omega) (by omega)]) | (refine guardV_split (fun h => ?_) (fun h => ?_) <;> (try rw [h]) <;> (try simp at h) <;> (try (exfalso; omega))) | (refine histRight_c ?_))
  exact hK
theorem submit_c {x : Sub} {σ : AST} {K : AV → AST → Prop} (hK : K (.bool (decide x.Ok)) σ) : TCalls Tryz.prog 77 [subV x] σ K := by
  refine TCalls.drop ?_
  refine tcalls_walk Tryz.f77 _ [.tmp 2] Tryz.func77 rfl rfl rfl mixed (Nat.le_of_ble_eq_true rfl) rfl fun hlen => ?_
  repeat' (first | (simp -dsimp only [↓reduceIte, go_sem]) | (refine arr_intro fun _ => ?_) | (rw [wrap_i64 (by omega) (by omega)]) | (refine guardV_split (fun h => ?_) (fun h => ?_) <;> (try rw [h]) <;> (try simp at h) <;> (try (exfalso; omega))) | (refine number_c ?_) | (refine kind_c ?_) | (refine client_c ?_))
  all_goals (first | exact hK | (exfalso; omega) | (refine bool_endD hK ?_; simp_all [Sub.Ok] <;> fail) | (refine bool_endDX (Ext.app _ _) hK ?_; simp_all [Sub.Ok] <;> fail) | (refine bool_endDX (Ext.refl _) hK ?_; simp_all [Sub.Ok] <;> fail) | (refine bool_endDX hx hK ?_; simp_all [Sub.Ok] <;> fail) | (refine bool_endD hK ?_; simp [Sub.Ok]; omega) | (refine bool_endDX (Ext.app _ _) hK ?_; simp [Sub.Ok]; omega) | (refine bool_endDX (Ext.refl _) hK ?_; simp [Sub.Ok]; omega) | (refine bool_endDX hx hK ?_; simp [Sub.Ok]; omega) | (refine bool_endD hK ?_; simp_all [Sub.Ok]; omega) | (refine bool_endDX (Ext.app _ _) hK ?_; simp_all [Sub.Ok]; omega) | (refine bool_endDX (Ext.refl _) hK ?_; simp_all [Sub.Ok]; omega) | (refine bool_endDX hx hK ?_; simp_all [Sub.Ok]; omega) | (refine bool_endD hK ?_; simp_all [Sub.Ok] <;> omega) | (refine bool_endDX (Ext.app _ _) hK ?_; simp_all [Sub.Ok] <;> omega) | (refine bool_endDX (Ext.refl _) hK ?_; simp_all [Sub.Ok] <;> omega) | (refine bool_endDX hx hK ?_; simp_all [Sub.Ok] <;> omega))
theorem blob_c {x : Blob} {σ : AST} {K : AV → AST → Prop} (hK : K (.bool (decide x.Ok)) σ) : TCalls Tryz.prog 80 [blobV x] σ K := by
  refine TCalls.drop ?_
  refine tcalls_walk Tryz.f80 _ [.tmp 2] Tryz.func80 rfl rfl rfl mixed (Nat.le_of_ble_eq_true rfl) rfl fun hlen => ?_
  repeat' (first | (simp -dsimp only [↓reduceIte, go_sem]) | (refine arr_intro fun _ => ?_) | (rw [wrap_i64 (by omega) (by omega)]) | (refine guardV_split (fun h => ?_) (fun h => ?_) <;> (try rw [h]) <;> (try simp at h) <;> (try (exfalso; omega))) | (refine client_c ?_) | (refine within_c ?_))
  all_goals (first | exact hK | (exfalso; omega) | (refine bool_endD hK ?_; simp_all [Blob.Ok] <;> fail) | (refine bool_endDX (Ext.app _ _) hK ?_; simp_all [Blob.Ok] <;> fail) | (refine bool_endDX (Ext.refl _) hK ?_; simp_all [Blob.Ok] <;> fail) | (refine bool_endDX hx hK ?_; simp_all [Blob.Ok] <;> fail) | (refine bool_endD hK ?_; simp [Blob.Ok]; omega) | (refine bool_endDX (Ext.app _ _) hK ?_; simp [Blob.Ok]; omega) | (refine bool_endDX (Ext.refl _) hK ?_; simp [Blob.Ok]; omega) | (refine bool_endDX hx hK ?_; simp [Blob.Ok]; omega) | (refine bool_endD hK ?_; simp_all [Blob.Ok]; omega) | (refine bool_endDX (Ext.app _ _) hK ?_; simp_all [Blob.Ok]; omega) | (refine bool_endDX (Ext.refl _) hK ?_; simp_all [Blob.Ok]; omega) | (refine bool_endDX hx hK ?_; simp_all [Blob.Ok]; omega) | (refine bool_endD hK ?_; simp_all [Blob.Ok] <;> omega) | (refine bool_endDX (Ext.app _ _) hK ?_; simp_all [Blob.Ok] <;> omega) | (refine bool_endDX (Ext.refl _) hK ?_; simp_all [Blob.Ok] <;> omega) | (refine bool_endDX hx hK ?_; simp_all [Blob.Ok] <;> omega))
end Go.Aff.L10

