import Derived.Test.YtahhjdknfhkgcaaG8
import Derived.Test.YtahhjdknfhkgcaaG7

set_option linter.unusedSimpArgs false
set_option linter.unusedVariables false

namespace Go.Aff.L21
open Go.Proofs Go.Aff Go.Aff.L01 Classical
set_option maxRecDepth 20000
attribute [local go_sem] push_app app_app length_app cellAt_app cellAt_app0 set_app set_app0 objs_app objs_app0 List.cons_append List.nil_append List.length_cons List.length_nil List.getElem?_cons_zero List.getElem?_cons_succ List.set_cons_zero List.set_cons_succ
attribute [-go_sem] cellAt_new
attribute [local go_sem] Try.underlying22 fits46 p46_0 Try.underlying84
attribute [local go_sem] fits3
attribute [local go_sem ↓] blockQ_exit2

theorem size_leaf {y : TLeaf} : (leafV y).size = 6 := by simp [leafV, AV.size, AV.sizes]
theorem agg_leaf {y : TLeaf} : (leafV y).isAgg = true := rfl
theorem tableAt {l : List TLeaf} {i : Nat} {y : TLeaf} (h : l[i]? = some y) : (l.map (·.x))[i]? = some y.x := by simp [h]
theorem get_pred {α : Type} {l : List α} {i : Nat} {y : α} (h : l[i]? = some y) (h0 : 0 < i) : l[i - 1]? = some (l[i - 1]'(by have := (List.getElem?_eq_some_iff.1 h).1; omega)) := List.getElem?_eq_getElem _
theorem nth_pred {α : Type} {l : List α} {i : Nat} {y : α} {F : α → Prop} (h : l[i]? = some y) (h0 : 0 < i) (hF : F (l[i - 1]'(by have := (List.getElem?_eq_some_iff.1 h).1; omega))) : nthW l ((i : Int) - 1) (@LamA _ ⟨F⟩) := by
  rw [show (i : Int) - 1 = ((i - 1 : Nat) : Int) by omega]; exact nth_get (get_pred h h0) hF
def TableTo (l : List TLeaf) (i : Nat) : Prop := ∀ (j : Nat) y, j < i → l[j]? = some y → y.x.Right ∧ ∀ z, 0 < j → l[j - 1]? = some z → z.x.num < y.x.num
theorem tableTo_all {l : List TLeaf} : TableTo l l.length ↔ Table (l.map (·.x)) := by
  constructor
  · intro h i x hx
    simp only [List.getElem?_map, Option.map_eq_some_iff] at hx
    obtain ⟨y, hy, rfl⟩ := hx
    refine ⟨(h i y (List.getElem?_eq_some_iff.1 hy).1 hy).1, fun z h0 hz => ?_⟩
    simp only [List.getElem?_map, Option.map_eq_some_iff] at hz
    obtain ⟨z, hz, rfl⟩ := hz
    exact (h i y (List.getElem?_eq_some_iff.1 hy).1 hy).2 z h0 hz
  · intro h j y _ hy
    exact ⟨(h j y.x (tableAt hy)).1, fun z h0 hz => (h j y.x (tableAt hy)).2 z.x h0 (tableAt hz)⟩
theorem tableTo_succ {l : List TLeaf} {i : Nat} {y : TLeaf} (hi : TableTo l i) (hy : l[i]? = some y) (h1 : y.x.Right) (h2 : ∀ z, 0 < i → l[i - 1]? = some z → z.x.num < y.x.num) : TableTo l (i + 1) := by
  intro j z hj hz
  by_cases h : j < i
  · exact hi j z h hz
  · obtain rfl : j = i := by omega
    rw [hy] at hz; cases hz; exact ⟨h1, h2⟩

theorem zt46 : ZeroOf Try.prog 84 (.agg [.int .i64 0, .int .i64 0, .int .i64 0, .slice .full [], .slice .full [], .slice .full []]) = True := by simp [zeroOf46]
theorem known_leaf {y : TLeaf} : (leafV y).known = true := rfl
attribute [local go_sem] zt46 zero46 agg_leaf known_leaf
theorem table_c {l : List TLeaf} {tk : Tk} {σ : AST} {K : AV → AST → Prop} (hK : K (.bool (decide (Table (l.map (·.x))))) σ) : TCalls Try.prog 99 [.slice tk (l.map leafV)] σ K := by
  refine TCalls.drop ?_
  refine tcalls_walk Try.f99 _ [.tmp 2] Try.func99 rfl rfl rfl mixed (Nat.le_of_ble_eq_true rfl) rfl fun hlen => ?_
  have bad : ∀ s, Ext σ s → ¬ Table (l.map (·.x)) → Ext σ s ∧ (AV.bool false).noRef = true ∧ K (AV.bool false).strip σ := fun s hx h => by
    rw [decide_eq_false h] at hK; exact ⟨hx, rfl, hK⟩
  simp -dsimp only [↓reduceIte, go_sem]
  refine arr_intro fun _ => ?_
  have hll : l.length ≤ 9223372036854775807 := by simpa [maxL] using ‹(l.map leafV).length ≤ maxL›
  simp only [List.length_map]
  simp -dsimp only [↓reduceIte, go_sem]
  refine awp_rounds (fun (i : Nat) τ s => Ext σ s ∧ i ≤ l.length ∧ TableTo l i ∧ τ 0 = .slice tk (l.map leafV) ∧ τ 5 = .slice tk (l.map leafV) ∧ τ 6 = .int .i64 l.length ∧ τ 7 = .int .i64 i) (fun i => l.length - i) 0 ?_ ?_
  · refine ⟨Ext.refl _, by omega, fun j y h => by omega, ?_, ?_, ?_, ?_⟩ <;> (try simp only [go_sem]) <;> rfl
  · rintro i τ s ⟨hx, hi, hall, t0, t5, t6, t7⟩
    simp -dsimp only [↓reduceIte, go_sem, t0, t5, t6, t7]
    refine boolW_split (fun hb => ?_) (fun hb => ?_)
    · have hb : i < l.length := by simp at hb; omega
      obtain ⟨y, hy⟩ := get_lt hb
      simp -dsimp only [↓reduceIte, go_sem, t0, t5, t6, t7]
      refine nth_get hy ?_
      repeat' (first | (simp -dsimp only [↓reduceIte, go_sem, t0, t5, t6, t7, leafV]) | (refine arr_intro fun _ => ?_) | (refine later_intro ⟨keeps_nil, ?_⟩) | (refine later_intro ⟨keeps_refl, ?_⟩) | (with_reducible refine keeps_go ?_ ?_; focus (first | (simp [keeps_cons, keeps_none, objs_app, objs_app0]; done) | (simp only [keeps_cons, keeps_none, objs_app0, objs_app, and_true]; first | rfl | exact ⟨rfl, rfl⟩ | exact ⟨rfl, rfl, rfl⟩))) | (with_reducible refine (And.intro (a := keeps _ _ _) ?_ ?_); focus (first | (simp [keeps_cons, keeps_none, objs_app, objs_app0]; done) | (simp only [keeps_cons, keeps_none, objs_app0, objs_app, and_true]; first | rfl | exact ⟨rfl, rfl⟩ | exact ⟨rfl, rfl, rfl⟩))) | (refine both_ways ?_ ?_) | (rw [wrap_i64 (by omega) (by omega)]) | (refine guardV_split (fun h => ?_) (fun h => ?_) <;> (try rw [h]) <;> (try simp at h) <;> (try (exfalso; omega))) | (with_reducible refine awp_drawS (id := 4) [0, 1, 2, 3, 4, 5, 6, 7, 8, 9, 10, 11, 12, 13, 14, 15, 16, 17] (by kernel_rfl) ?_) | (refine right_c ?_) | (refine nth_get hy ?_) | (refine nth_pred hy (by omega) ?_))
      · exact bad _ (hx.trans (Ext.app _ _)) fun ht => by have := (tableTo_all.2 ht i y hb hy).2 _ ‹_› (get_pred hy ‹_›); omega
      · refine later_intro ⟨i + 1, by omega, hx.trans (Ext.app _ _), by omega, tableTo_succ hall hy ‹_› (fun z h0 hz => by rw [get_pred hy h0] at hz; cases hz; omega), ?_, ?_, ?_, ?_⟩ <;> (try simp only [go_sem, t0, t5, t6, t7]) <;> rfl
      · refine later_intro ⟨i + 1, by omega, hx.trans (Ext.app _ _), by omega, tableTo_succ hall hy ‹_› (fun z h0 hz => by omega), ?_, ?_, ?_, ?_⟩ <;> (try simp only [go_sem, t0, t5, t6, t7]) <;> rfl
      · exact bad _ (hx.trans (Ext.app _ _)) fun ht => ‹¬ y.x.Right› (tableTo_all.2 ht i y hb hy).1
    · have hb : i = l.length := by simp at hb; omega
      repeat' (first | (simp -dsimp only [↓reduceIte, go_sem, t0, t5, t6, t7]) | (refine arr_intro fun _ => ?_) | (refine later_intro ⟨keeps_nil, ?_⟩) | (refine later_intro ⟨keeps_refl, ?_⟩) | (with_reducible refine keeps_go ?_ ?_; focus (first | (simp [keeps_cons, keeps_none, objs_app, objs_app0]; done) | (simp only [keeps_cons, keeps_none, objs_app0, objs_app, and_true]; first | rfl | exact ⟨rfl, rfl⟩ | exact ⟨rfl, rfl, rfl⟩))) | (with_reducible refine (And.intro (a := keeps _ _ _) ?_ ?_); focus (first | (simp [keeps_cons, keeps_none, objs_app, objs_app0]; done) | (simp only [keeps_cons, keeps_none, objs_app0, objs_app, and_true]; first | rfl | exact ⟨rfl, rfl⟩ | exact ⟨rfl, rfl, rfl⟩))) | (refine both_ways ?_ ?_) | (rw [wrap_i64 (by omega) (by omega)]) | (refine guardV_split (fun h => ?_) (fun h => ?_) <;> (try rw [h]) <;> (try simp at h) <;> (try (exfalso; omega))))
      rw [hb] at hall
      rw [decide_eq_true (tableTo_all.1 hall)] at hK
      exact ⟨hx, rfl, hK⟩
attribute [local go_sem ↓] blockQ_exit2
end Go.Aff.L21

namespace Go.Aff

variable {P : Program} {σ s : AST} {tk : Tk} {K : AV → AST → Prop}

structure Gr (σ s : AST) (tk : Tk) (n : Nat) (e : Nat := 1) : Prop where
  x : Ext σ s
  t : tkNew σ tk
  c : canApp s tk n e
theorem Gr.start {n e : Nat} : Gr σ σ .full n e := ⟨Ext.refl _, .inl rfl, trivial⟩
theorem Gr.start' {n e : Nat} (h : Ext σ s) : Gr σ s .full n e := ⟨h, .inl rfl, trivial⟩
theorem Gr.grow {n m e : Nat} (h : Gr σ s tk n e) : Gr σ (growS s tk m e) (growT s tk) m e := ⟨h.x.grow h.t, h.t.grow h.x, canApp_grow h.c⟩
theorem Gr.app {n e : Nat} {l : List AObj} (h : Gr σ s tk n e) : Gr σ (s.app l) tk n e := ⟨h.x.trans (Ext.app _ _), h.t, by rw [canApp_app]; exact h.c⟩
theorem Gr.set {σ s : AST} {tk : Tk} {n e i : Nat} {o : AObj} (h : Gr σ s tk n e) (hi : σ.objs.length ≤ i) : Gr σ (s.set i o) tk n e := ⟨h.x.set hi, h.t, by rw [canApp_set]; exact h.c⟩
theorem canApp_of {n m e : Nat} (h : canApp s tk n e) (hm : m = n) : canApp s tk m e := by subst hm; exact h
theorem growS_objs {n e : Nat} : (growS σ tk n e).objs = σ.objs := by cases tk <;> rfl

/-! ### Parts put in, by rewriting -/
variable {KV : AV → Prop}
def fillE (P : Program) (t : TypeId) (ps : List AV) (u : Option AV) (i : Nat) (x : AV) (r : List (Nat × AV)) (K : AV → Prop) : Prop := match u with
  | some u => partIs P t ps i x ∧ u.shape = x.shape ∧ x.known = true ∧ fillW P t r (.agg (ps.set i x)) K
  | none => False
theorem fill_agg {t : TypeId} {i : Nat} {x : AV} {r : List (Nat × AV)} {ps : List AV} : fillW P t ((i, x) :: r) (.agg ps) KV = fillE P t ps ps[i]? i x r KV := by
  rw [fillW.eq_2]
  cases h : ps[i]? with
  | none => simp [fillE]
  | some u => simp [fillE]
theorem fillE_some {t : TypeId} {i : Nat} {x u : AV} {r : List (Nat × AV)} {ps : List AV} : fillE P t ps (some u) i x r KV = ((partIs P t ps i x ∧ u.shape = x.shape ∧ x.known = true) ∧ @Later ⟨fillW P t r (.agg (ps.set i x)) KV⟩) := by
  simp [fillE, Later, and_assoc]
theorem fill_nil' {t : TypeId} {v : AV} : fillW P t [] v KV = KV v := by cases v <;> rfl
attribute [go_sem] fill_agg fillE_some fill_nil'
end Go.Aff

namespace Go.Aff

variable {P : Program} {σ σ' : AST} {ops : Array Oper} {τ : Env} {KE : Env → AST → Prop}

inductive Tf where
  | nil
  | op (i k : Nat) (r : Tf)
  | fork (e : Nat) (a b : Tf)
def Tf.tr : Tf → Tr
  | .nil => .nil
  | .op i _ r => .op i r.tr
  | .fork e a b => .fork e a.tr b.tr
def Tf.all : Tf → List Nat
  | .nil => []
  | .op i k r => if k = 1 ∨ k = 3 then i :: r.all else r.all
  | .fork _ a b => a.all ++ b.all
def Tf.effs : Tf → List Nat
  | .nil => []
  | .op i k r => if k = 1 then i :: r.all else r.effs
  | .fork _ a b => a.effs ++ b.effs
def seqT (P : Program) (ops : Array Oper) : Tf → List Nat → Env → AST → (Env → AST → Prop) → Prop
  | .nil, ks, τ, σ, K => K τ σ
  | .op i 1 r, ks, τ, σ, K => match gop ops i with
    | none => False
    | some o => stepW P ops o τ σ fun v σ' => keeps ks σ σ' ∧ seqT P ops r ks (τ.putO o.dst v) σ' K
  | .op i 0 r, ks, τ, σ, K => match gop ops i with
    | none => False
    | some o => stepW P ops o τ σ fun v σ' => σ' = σ ∧ seqT P ops r (reads (ev τ) o.op ++ ks) (τ.putO o.dst v) σ' K
  | .op i _ r, ks, τ, σ, K => match gop ops i with
    | none => False
    | some o => stepW P ops o τ σ fun v σ' => σ' = σ ∧ seqT P ops r ks (τ.putO o.dst v) σ' K
  | .fork _ a b, ks, τ, σ, K => seqT P ops a ks τ σ K ∧ seqT P ops b ks τ σ K

def flagsT (P : Program) (ops : Array Oper) : Tf → Bool
  | .nil => true
  | .op i k r => (match ops[i]? with
    | none => false
    | some o => effO P o == (k == 1 || k == 3)) && (k == 0 || k == 1 || k == 3 || r.effs.all fun y => ahead (anc ops) y i) && flagsT P ops r
  | .fork _ a b => flagsT P ops a && flagsT P ops b

def validT (P : Program) (ops : Array Oper) (x : Nat × Env × AV) (σ : AST) : Prop := ∀ o, ops[x.1]? = some o → (∀ t, lenOk (x.2.1 t)) ∧ effO P o = false ∧ stepW P ops o x.2.1 σ fun v' σ'' => v' = x.2.2 ∧ σ'' = σ
def pastT (P : Program) (ops : Array Oper) (ks : List Nat) (past : List (Nat × Env × AV)) (T : Tf) (σ : AST) : Prop :=
  ∀ x ∈ past, (validT P ops x σ ∧ ∀ o, ops[x.1]? = some o → ∀ k ∈ reads (ev x.2.1) o.op, k ∈ ks) ∨ (validT P ops x σ ∧ ∀ y ∈ T.effs, ahead (anc ops) y x.1 = true) ∨ (∀ y ∈ T.all, ahead (anc ops) y x.1 = true)

theorem seqT_pure (i k : Nat) (r : Tf) (ks : List Nat) (past : List (Nat × Env × AV)) (τ : Env) (σ : AST) (k0 : k ≠ 0) (k1 : k ≠ 1) (k3 : k ≠ 3)
    (ih : ∀ (past' : List (Nat × Env × AV)) (τ' : Env), flagsT P ops r = true → pastT P ops ks past' r σ → (∀ t, lenOk (τ' t)) → seqT P ops r ks τ' σ KE → awpT P ops r.tr past' τ' σ KE)
    (hf : flagsT P ops (.op i k r) = true) (hp : pastT P ops ks past (.op i k r) σ) (hlen : ∀ t, lenOk (τ t))
    (h : match gop ops i with
      | none => False
      | some o => stepW P ops o τ σ fun v σ' => σ' = σ ∧ seqT P ops r ks (τ.putO o.dst v) σ' KE) : awpT P ops (Tf.op i k r).tr past τ σ KE := by
  split at h
  · exact h.elim
  · rename_i o hk
    have hk : ops[i]? = some o := hk
    simp only [flagsT, hk, Bool.and_eq_true, beq_iff_eq] at hf
    have b0 : (k == 0) = false := by simpa using k0
    have b1 : (k == 1) = false := by simpa using k1
    have b3 : (k == 3) = false := by simpa using k3
    rw [b0, b1, b3] at hf
    have he : effO P o = false := by simpa using hf.1.1
    have hall : (r.effs.all fun y => ahead (anc ops) y i) = true := by simpa using hf.1.2
    rw [List.all_eq_true] at hall
    simp only [Tf.tr, awpT, hk, he, Bool.false_eq_true, if_false]
    obtain ⟨v, hv, hkk⟩ := stepW_det hlen he h
    refine hkk _ fun hlv => ih _ _ hf.2 ?_ hlv hv.2
    intro x hx
    rcases List.mem_cons.1 hx with rfl | hx
    · right; left
      refine ⟨fun o' ho' => ?_, hall⟩
      dsimp only at ho' ⊢
      rw [hk] at ho'; cases ho'
      exact ⟨hlen, he, hkk _ ⟨rfl, rfl⟩⟩
    · rcases hp x hx with ⟨h0, h1⟩ | ⟨h0, h1⟩ | h0
      · exact .inl ⟨h0, h1⟩
      · exact .inr (.inl ⟨h0, fun y hy => h1 y (by simpa [Tf.effs, k1] using hy)⟩)
      · exact .inr (.inr fun y hy => h0 y (by simpa [Tf.all, k1, k3] using hy))
theorem seqT_awpT : ∀ (T : Tf) (ks : List Nat) (past : List (Nat × Env × AV)) (τ : Env) (σ : AST), flagsT P ops T = true → pastT P ops ks past T σ → (∀ t, lenOk (τ t)) → seqT P ops T ks τ σ KE → awpT P ops T.tr past τ σ KE
  | .nil, ks, past, τ, σ, hf, hp, hlen, h => h
  | .fork e a b, ks, past, τ, σ, hf, hp, hlen, h => by
    simp only [flagsT, Bool.and_eq_true] at hf
    simp only [seqT] at h
    refine ⟨seqT_awpT a ks past τ σ hf.1 (fun x hx => ?_) hlen h.1, seqT_awpT b ks past τ σ hf.2 (fun x hx => ?_) hlen h.2⟩
    · rcases hp x hx with h | ⟨h1, h2⟩ | h
      · exact .inl h
      · exact .inr (.inl ⟨h1, fun y hy => h2 y (by simp [Tf.effs, hy])⟩)
      · exact .inr (.inr fun y hy => h y (by simp [Tf.all, hy]))
    · rcases hp x hx with h | ⟨h1, h2⟩ | h
      · exact .inl h
      · exact .inr (.inl ⟨h1, fun y hy => h2 y (by simp [Tf.effs, hy])⟩)
      · exact .inr (.inr fun y hy => h y (by simp [Tf.all, hy]))
  | .op i 1 r, ks, past, τ, σ, hf, hp, hlen, h => by
    simp only [seqT] at h
    split at h
    · exact h.elim
    · rename_i o hk
      have hk : ops[i]? = some o := hk
      simp only [flagsT, hk, Bool.and_eq_true, beq_iff_eq] at hf
      have he : effO P o = true := by simpa using hf.1.1
      simp only [Tf.tr, awpT, hk, he, if_true]
      refine stepW_mono (fun v σ' hh => ?_) h
      refine ⟨fun x hx hah o ho => ?_, fun hlv => seqT_awpT r ks past _ _ hf.2 ?_ hlv hh.2⟩
      · rcases hp x hx with ⟨h0, h3⟩ | ⟨_, h0⟩ | h0
        · obtain ⟨h1, h2, h4⟩ := h0 o ho
          exact step_same h1 h2 (fun k hk => hh.1 k (h3 o ho k hk)) h4
        · rw [h0 i (by simp [Tf.effs])] at hah; cases hah
        · rw [h0 i (by simp [Tf.all])] at hah; cases hah
      · intro x hx
        rcases hp x hx with ⟨h0, h3⟩ | ⟨_, h0⟩ | h0
        · left
          refine ⟨fun o ho => ?_, h3⟩
          obtain ⟨h1, h2, h4⟩ := h0 o ho
          exact ⟨h1, h2, step_same h1 h2 (fun k hk => hh.1 k (h3 o ho k hk)) h4⟩
        · right; right
          intro y hy; exact h0 y (by simp [Tf.effs, hy])
        · right; right
          intro y hy; exact h0 y (by simp [Tf.all, hy])
  | .op i 3 r, ks, past, τ, σ, hf, hp, hlen, h => by
    simp only [seqT] at h
    split at h
    · exact h.elim
    · rename_i o hk
      have hk : ops[i]? = some o := hk
      simp only [flagsT, hk, Bool.and_eq_true, beq_iff_eq] at hf
      have he : effO P o = true := by simpa using hf.1.1
      simp only [Tf.tr, awpT, hk, he, if_true]
      refine stepW_mono (fun v σ' hh => ?_) h
      obtain ⟨rfl, hh⟩ := hh
      refine ⟨fun x hx hah o ho => ?_, fun hlv => seqT_awpT r ks past _ _ hf.2 ?_ hlv hh⟩
      · rcases hp x hx with ⟨h0, h3⟩ | ⟨h0, _⟩ | h0
        · exact (h0 o ho).2.2
        · exact (h0 o ho).2.2
        · rw [h0 i (by simp [Tf.all])] at hah; cases hah
      · intro x hx
        rcases hp x hx with h0 | ⟨h0, h1⟩ | h0
        · exact .inl h0
        · exact .inr (.inl ⟨h0, fun y hy => h1 y (by simpa [Tf.effs] using hy)⟩)
        · exact .inr (.inr fun y hy => h0 y (by simp [Tf.all, hy]))
  | .op i 0 r, ks, past, τ, σ, hf, hp, hlen, h => by
    simp only [seqT] at h
    split at h
    · exact h.elim
    · rename_i o hk
      have hk : ops[i]? = some o := hk
      simp only [flagsT, hk, Bool.and_eq_true, beq_iff_eq] at hf
      have he : effO P o = false := by simpa using hf.1.1
      simp only [Tf.tr, awpT, hk, he, Bool.false_eq_true, if_false]
      obtain ⟨v, hv, hkk⟩ := stepW_det hlen he h
      refine hkk _ fun hlv => seqT_awpT r _ _ _ _ hf.2 ?_ hlv hv.2
      intro x hx
      rcases List.mem_cons.1 hx with rfl | hx
      · left
        refine ⟨fun o' ho' => ?_, fun o' ho' k hkr => ?_⟩
        · dsimp only at ho' ⊢
          rw [hk] at ho'; cases ho'
          exact ⟨hlen, he, hkk _ ⟨rfl, rfl⟩⟩
        · dsimp only at ho' hkr
          rw [hk] at ho'; cases ho'
          exact List.mem_append_left _ hkr
      · rcases hp x hx with ⟨h0, h1⟩ | ⟨h0, h1⟩ | h0
        · exact .inl ⟨h0, fun o' ho' k hkr => List.mem_append_right _ (h1 o' ho' k hkr)⟩
        · exact .inr (.inl ⟨h0, fun y hy => h1 y (by simpa [Tf.effs] using hy)⟩)
        · exact .inr (.inr fun y hy => h0 y (by simpa [Tf.all] using hy))
  | .op i 2 r, ks, past, τ, σ, hf, hp, hlen, h => seqT_pure i 2 r ks past τ σ (by decide) (by decide) (by decide) (fun past' K' h1 h2 h3 h4 => seqT_awpT r ks past' _ σ h1 h2 h3 h4) hf hp hlen (by simpa only [seqT] using h)
  | .op i (n + 4) r, ks, past, τ, σ, hf, hp, hlen, h => seqT_pure i (n + 4) r ks past τ σ (by omega) (by omega) (by omega) (fun past' K' h1 h2 h3 h4 => seqT_awpT r ks past' _ σ h1 h2 h3 h4) hf hp hlen (by simpa only [seqT] using h)

theorem awp_drawT {id : Nat} {ops : Array Oper} {Q : Exit → Env → AST → Prop} (T : Tf) (ho : (trOk P ops T.tr && flagsT P ops T) = true) (h : seqT P ops T [] τ σ (Q .normal)) : awp P (.region id ops true) Q τ σ := by
  rw [Bool.and_eq_true] at ho
  exact awp_drawTree _ ho.1 fun hlen => seqT_awpT T [] [] τ σ ho.2 (fun x hx => by simp at hx) hlen h

def seqT0 (P : Program) (ops : Array Oper) (o : Option Oper) (r : Tf) (ks : List Nat) (τ : Env) (σ : AST) (K : Env → AST → Prop) : Prop := match o with
  | none => False
  | some o => stepW P ops o τ σ fun v σ' => σ' = σ ∧ seqT P ops r (reads (ev τ) o.op ++ ks) (τ.putO o.dst v) σ' K
def seqT1 (P : Program) (ops : Array Oper) (o : Option Oper) (r : Tf) (ks : List Nat) (τ : Env) (σ : AST) (K : Env → AST → Prop) : Prop := match o with
  | none => False
  | some o => stepW P ops o τ σ fun v σ' => keeps ks σ σ' ∧ seqT P ops r ks (τ.putO o.dst v) σ' K
def seqT2 (P : Program) (ops : Array Oper) (o : Option Oper) (r : Tf) (ks : List Nat) (τ : Env) (σ : AST) (K : Env → AST → Prop) : Prop := match o with
  | none => False
  | some o => stepW P ops o τ σ fun v σ' => σ' = σ ∧ seqT P ops r ks (τ.putO o.dst v) σ' K
variable {ks : List Nat}
theorem seqT_nil : seqT P ops .nil ks τ σ KE = KE τ σ := nr rfl
theorem seqT_1 {i : Nat} {r : Tf} : seqT P ops (.op i 1 r) ks τ σ KE = seqT1 P ops (gop ops i) r ks τ σ KE := by simp only [seqT, seqT1]
theorem seqT_0 {i : Nat} {r : Tf} : seqT P ops (.op i 0 r) ks τ σ KE = seqT0 P ops (gop ops i) r ks τ σ KE := by simp only [seqT, seqT0]
theorem seqT_3 {i : Nat} {r : Tf} : seqT P ops (.op i 3 r) ks τ σ KE = seqT2 P ops (gop ops i) r ks τ σ KE := by simp only [seqT, seqT2]
theorem seqT_2 {i : Nat} {r : Tf} : seqT P ops (.op i 2 r) ks τ σ KE = seqT2 P ops (gop ops i) r ks τ σ KE := by simp only [seqT, seqT2]
structure Both (A B : Prop) : Prop where
  l : A
  r : B
theorem seqT_fork {e : Nat} {a b : Tf} : seqT P ops (.fork e a b) ks τ σ KE = Both (@Later ⟨seqT P ops a ks τ σ KE⟩) (@Later ⟨seqT P ops b ks τ σ KE⟩) := by
  simp only [seqT, Later, eq_iff_iff]
  exact ⟨fun h => ⟨h.1, h.2⟩, fun h => ⟨h.l, h.r⟩⟩
theorem both_ways {A B : Prop} (ha : A) (hb : B) : Both (@Later ⟨A⟩) (@Later ⟨B⟩) := ⟨ha, hb⟩
theorem seqT1_some {o : Oper} {r : Tf} : seqT1 P ops (some o) r ks τ σ KE = stepW P ops o τ σ (@Lam ⟨fun v σ' => @Later ⟨keeps ks σ σ' ∧ seqT P ops r ks (τ.putO o.dst v) σ' KE⟩⟩) := nr rfl
theorem seqT0_some {o : Oper} {r : Tf} : seqT0 P ops (some o) r ks τ σ KE = stepW P ops o τ σ (@Lam ⟨fun v σ' => σ' = σ ∧ @Later ⟨seqT P ops r (reads (ev τ) o.op ++ ks) (τ.putO o.dst v) σ' KE⟩⟩) := nr rfl
theorem seqT2_some {o : Oper} {r : Tf} : seqT2 P ops (some o) r ks τ σ KE = stepW P ops o τ σ (@Lam ⟨fun v σ' => σ' = σ ∧ @Later ⟨seqT P ops r ks (τ.putO o.dst v) σ' KE⟩⟩) := nr rfl
attribute [go_sem ↓] seqT_nil seqT_0 seqT_1 seqT_2 seqT_3 seqT_fork seqT0_some seqT1_some seqT2_some
end Go.Aff

namespace Go.Aff.L10
open Go.Proofs Go.Aff Go.Aff.L01 Classical
set_option maxRecDepth 20000
def dig0 : Dig := ⟨List.replicate 32 0, by simp⟩
structure Sub where
  num : Int
  kind : Int
  target : Int
  value : List UInt8
  asked : Dig
  data : Dig
def sub0 : Sub := ⟨0, 0, 0, [], dig0, dig0⟩
def subPs (x : Sub) : List AV := [.int .i64 x.num, .int .i64 x.kind, .int .i64 x.target, .str x.value, .dig x.asked, .dig x.data]
abbrev subV (x : Sub) : AV := .agg (subPs x)
theorem subPs_0 {x : Sub} : (subPs x)[0]? = some (.int .i64 x.num) := nr rfl
theorem subAt_0 {x : Sub} {v : AV} : partIs Try.prog 67 (subPs x) 0 v = fits Try.prog 3 v := by rw [partIs_of (o := 0) (T := 3) (by kernel_rfl)]; simp [subPs, AV.sizes, AV.size]
theorem subSet_0 {x : Sub} {y : Int} : (subPs x).set 0 (.int .i64 y) = subPs { x with num := y } := nr rfl
theorem subPs_1 {x : Sub} : (subPs x)[1]? = some (.int .i64 x.kind) := nr rfl
theorem subAt_1 {x : Sub} {v : AV} : partIs Try.prog 67 (subPs x) 1 v = fits Try.prog 3 v := by rw [partIs_of (o := 1) (T := 3) (by kernel_rfl)]; simp [subPs, AV.sizes, AV.size]
theorem subSet_1 {x : Sub} {y : Int} : (subPs x).set 1 (.int .i64 y) = subPs { x with kind := y } := nr rfl
theorem subPs_2 {x : Sub} : (subPs x)[2]? = some (.int .i64 x.target) := nr rfl
theorem subAt_2 {x : Sub} {v : AV} : partIs Try.prog 67 (subPs x) 2 v = fits Try.prog 3 v := by rw [partIs_of (o := 2) (T := 3) (by kernel_rfl)]; simp [subPs, AV.sizes, AV.size]
theorem subSet_2 {x : Sub} {y : Int} : (subPs x).set 2 (.int .i64 y) = subPs { x with target := y } := nr rfl
theorem subPs_3 {x : Sub} : (subPs x)[3]? = some (.str x.value) := nr rfl
theorem subAt_3 {x : Sub} {v : AV} : partIs Try.prog 67 (subPs x) 3 v = fits Try.prog 9 v := by rw [partIs_of (o := 3) (T := 9) (by kernel_rfl)]; simp [subPs, AV.sizes, AV.size]
theorem subPs_4 {x : Sub} : (subPs x)[4]? = some (.dig x.asked) := nr rfl
theorem subAt_4 {x : Sub} {v : AV} : partIs Try.prog 67 (subPs x) 4 v = fits Try.prog 65 v := by rw [partIs_of (o := 4) (T := 65) (by kernel_rfl)]; simp [subPs, AV.sizes, AV.size]
theorem subPs_5 {x : Sub} : (subPs x)[5]? = some (.dig x.data) := nr rfl
theorem subAt_5 {x : Sub} {v : AV} : partIs Try.prog 67 (subPs x) 5 v = fits Try.prog 65 v := by rw [partIs_of (o := 36) (T := 65) (by kernel_rfl)]; simp [subPs, AV.sizes, AV.size]
theorem sizes_sub {x : Sub} : AV.sizes (subPs x) = 68 := by simp [subPs, AV.sizes, AV.size]
theorem shapes_sub {x : Sub} : AV.shapes (subPs x) = [.leaf, .leaf, .leaf, .leaf, .dig, .dig] := by simp [subPs, AV.shapes, AV.shape]
theorem fits_sub {v : AV} : fits Try.prog 67 v = (v.isAgg = true ∧ v.size = 68) := fits_agg (by kernel_rfl) (by kernel_rfl)
theorem zero_sub : zeroA Try.prog 12 67 = .agg (subPs sub0) := by kernel_rfl
theorem zt_sub : ZeroOf Try.prog 67 (.agg (subPs sub0)) = True := eq_true ⟨_, _, rfl, rfl, rfl, rfl, rfl⟩
theorem built_sub : Built Try.prog 67 = True := eq_true (by unfold Built; rw [Try.underlying67]; decide +kernel)
theorem strip_sub {x : Sub} : AV.strips (subPs x) = subPs x := by simp [subPs, AV.strips, AV.strip]
structure Pend where
  client : Int
  num : Int
  kind : Int
  target : Int
  asked : Dig
  proof : Dig
def pend0 : Pend := ⟨0, 0, 0, 0, dig0, dig0⟩
def pendPs (x : Pend) : List AV := [.int .i64 x.client, .int .i64 x.num, .int .i64 x.kind, .int .i64 x.target, .dig x.asked, .dig x.proof]
abbrev pendV (x : Pend) : AV := .agg (pendPs x)
theorem pendPs_0 {x : Pend} : (pendPs x)[0]? = some (.int .i64 x.client) := nr rfl
theorem pendAt_0 {x : Pend} {v : AV} : partIs Try.prog 163 (pendPs x) 0 v = fits Try.prog 3 v := by rw [partIs_of (o := 0) (T := 3) (by kernel_rfl)]; simp [pendPs, AV.sizes, AV.size]
theorem pendPs_1 {x : Pend} : (pendPs x)[1]? = some (.int .i64 x.num) := nr rfl
theorem pendAt_1 {x : Pend} {v : AV} : partIs Try.prog 163 (pendPs x) 1 v = fits Try.prog 3 v := by rw [partIs_of (o := 1) (T := 3) (by kernel_rfl)]; simp [pendPs, AV.sizes, AV.size]
theorem pendPs_2 {x : Pend} : (pendPs x)[2]? = some (.int .i64 x.kind) := nr rfl
theorem pendAt_2 {x : Pend} {v : AV} : partIs Try.prog 163 (pendPs x) 2 v = fits Try.prog 3 v := by rw [partIs_of (o := 2) (T := 3) (by kernel_rfl)]; simp [pendPs, AV.sizes, AV.size]
theorem pendPs_3 {x : Pend} : (pendPs x)[3]? = some (.int .i64 x.target) := nr rfl
theorem pendAt_3 {x : Pend} {v : AV} : partIs Try.prog 163 (pendPs x) 3 v = fits Try.prog 3 v := by rw [partIs_of (o := 3) (T := 3) (by kernel_rfl)]; simp [pendPs, AV.sizes, AV.size]
theorem pendPs_4 {x : Pend} : (pendPs x)[4]? = some (.dig x.asked) := nr rfl
theorem pendAt_4 {x : Pend} {v : AV} : partIs Try.prog 163 (pendPs x) 4 v = fits Try.prog 65 v := by rw [partIs_of (o := 4) (T := 65) (by kernel_rfl)]; simp [pendPs, AV.sizes, AV.size]
theorem pendPs_5 {x : Pend} : (pendPs x)[5]? = some (.dig x.proof) := nr rfl
theorem pendAt_5 {x : Pend} {v : AV} : partIs Try.prog 163 (pendPs x) 5 v = fits Try.prog 65 v := by rw [partIs_of (o := 36) (T := 65) (by kernel_rfl)]; simp [pendPs, AV.sizes, AV.size]
theorem sizes_pend {x : Pend} : AV.sizes (pendPs x) = 68 := by simp [pendPs, AV.sizes, AV.size]
theorem shapes_pend {x : Pend} : AV.shapes (pendPs x) = [.leaf, .leaf, .leaf, .leaf, .dig, .dig] := by simp [pendPs, AV.shapes, AV.shape]
theorem fits_pend {v : AV} : fits Try.prog 163 v = (v.isAgg = true ∧ v.size = 68) := fits_agg (by kernel_rfl) (by kernel_rfl)
theorem zero_pend : zeroA Try.prog 12 163 = .agg (pendPs pend0) := by kernel_rfl
theorem zt_pend : ZeroOf Try.prog 163 (.agg (pendPs pend0)) = True := eq_true ⟨_, _, rfl, rfl, rfl, rfl, rfl⟩
theorem strip_pend {x : Pend} : AV.strips (pendPs x) = pendPs x := by simp [pendPs, AV.strips, AV.strip]
theorem noRef_pend {x : Pend} : AV.noRefs (pendPs x) = true := by simp [pendPs, AV.noRefs, AV.noRef]
structure Rep where
  num : Int
  last : Int
  view : List UInt8
  commit : Dig
  pending : List Pend
  vnum : Int
  value : List UInt8
  data : Dig
  seen : List UInt8
  seenTag : Dig
def rep0 : Rep := ⟨0, 0, [], dig0, [], 0, [], dig0, [], dig0⟩
def repPs (t0 : Tk) (x : Rep) : List AV := [.int .i64 x.num, .int .i64 x.last, .str x.view, .dig x.commit, .slice t0 (x.pending.map pendV), .int .i64 x.vnum, .str x.value, .dig x.data, .str x.seen, .dig x.seenTag]
abbrev repV (t0 : Tk) (x : Rep) : AV := .agg (repPs t0 x)
theorem repPs_0 {t0 : Tk} {x : Rep} : (repPs t0 x)[0]? = some (.int .i64 x.num) := nr rfl
theorem repAt_0 {t0 : Tk} {x : Rep} {v : AV} : partIs Try.prog 70 (repPs t0 x) 0 v = fits Try.prog 3 v := by rw [partIs_of (o := 0) (T := 3) (by kernel_rfl)]; simp [repPs, AV.sizes, AV.size]
theorem repPs_1 {t0 : Tk} {x : Rep} : (repPs t0 x)[1]? = some (.int .i64 x.last) := nr rfl
theorem repAt_1 {t0 : Tk} {x : Rep} {v : AV} : partIs Try.prog 70 (repPs t0 x) 1 v = fits Try.prog 3 v := by rw [partIs_of (o := 1) (T := 3) (by kernel_rfl)]; simp [repPs, AV.sizes, AV.size]
theorem repPs_2 {t0 : Tk} {x : Rep} : (repPs t0 x)[2]? = some (.str x.view) := nr rfl
theorem repAt_2 {t0 : Tk} {x : Rep} {v : AV} : partIs Try.prog 70 (repPs t0 x) 2 v = fits Try.prog 9 v := by rw [partIs_of (o := 2) (T := 9) (by kernel_rfl)]; simp [repPs, AV.sizes, AV.size]
theorem repPs_3 {t0 : Tk} {x : Rep} : (repPs t0 x)[3]? = some (.dig x.commit) := nr rfl
theorem repAt_3 {t0 : Tk} {x : Rep} {v : AV} : partIs Try.prog 70 (repPs t0 x) 3 v = fits Try.prog 65 v := by rw [partIs_of (o := 3) (T := 65) (by kernel_rfl)]; simp [repPs, AV.sizes, AV.size]
theorem repPs_4 {t0 : Tk} {x : Rep} : (repPs t0 x)[4]? = some (.slice t0 (x.pending.map pendV)) := nr rfl
theorem repAt_4 {t0 : Tk} {x : Rep} {v : AV} : partIs Try.prog 70 (repPs t0 x) 4 v = fits Try.prog 68 v := by rw [partIs_of (o := 35) (T := 68) (by kernel_rfl)]; simp [repPs, AV.sizes, AV.size]
theorem repPs_5 {t0 : Tk} {x : Rep} : (repPs t0 x)[5]? = some (.int .i64 x.vnum) := nr rfl
theorem repAt_5 {t0 : Tk} {x : Rep} {v : AV} : partIs Try.prog 70 (repPs t0 x) 5 v = fits Try.prog 3 v := by rw [partIs_of (o := 36) (T := 3) (by kernel_rfl)]; simp [repPs, AV.sizes, AV.size]
theorem repPs_6 {t0 : Tk} {x : Rep} : (repPs t0 x)[6]? = some (.str x.value) := nr rfl
theorem repAt_6 {t0 : Tk} {x : Rep} {v : AV} : partIs Try.prog 70 (repPs t0 x) 6 v = fits Try.prog 9 v := by rw [partIs_of (o := 37) (T := 9) (by kernel_rfl)]; simp [repPs, AV.sizes, AV.size]
theorem repPs_7 {t0 : Tk} {x : Rep} : (repPs t0 x)[7]? = some (.dig x.data) := nr rfl
theorem repAt_7 {t0 : Tk} {x : Rep} {v : AV} : partIs Try.prog 70 (repPs t0 x) 7 v = fits Try.prog 65 v := by rw [partIs_of (o := 38) (T := 65) (by kernel_rfl)]; simp [repPs, AV.sizes, AV.size]
theorem repPs_8 {t0 : Tk} {x : Rep} : (repPs t0 x)[8]? = some (.str x.seen) := nr rfl
theorem repAt_8 {t0 : Tk} {x : Rep} {v : AV} : partIs Try.prog 70 (repPs t0 x) 8 v = fits Try.prog 9 v := by rw [partIs_of (o := 70) (T := 9) (by kernel_rfl)]; simp [repPs, AV.sizes, AV.size]
theorem repPs_9 {t0 : Tk} {x : Rep} : (repPs t0 x)[9]? = some (.dig x.seenTag) := nr rfl
theorem repAt_9 {t0 : Tk} {x : Rep} {v : AV} : partIs Try.prog 70 (repPs t0 x) 9 v = fits Try.prog 65 v := by rw [partIs_of (o := 71) (T := 65) (by kernel_rfl)]; simp [repPs, AV.sizes, AV.size]
theorem sizes_rep {t0 : Tk} {x : Rep} : AV.sizes (repPs t0 x) = 103 := by simp [repPs, AV.sizes, AV.size]
theorem shapes_rep {t0 : Tk} {x : Rep} : AV.shapes (repPs t0 x) = [.leaf, .leaf, .leaf, .dig, .leaf, .leaf, .leaf, .dig, .leaf, .dig] := by simp [repPs, AV.shapes, AV.shape]
theorem fits_rep {v : AV} : fits Try.prog 70 v = (v.isAgg = true ∧ v.size = 103) := fits_agg (by kernel_rfl) (by kernel_rfl)
theorem zero_rep : zeroA Try.prog 12 70 = .agg (repPs .full rep0) := by kernel_rfl
theorem zt_rep : ZeroOf Try.prog 70 (.agg (repPs .full rep0)) = True := eq_true ⟨_, _, rfl, rfl, rfl, rfl, rfl⟩
theorem built_rep : Built Try.prog 70 = True := eq_true (by unfold Built; rw [Try.underlying70]; decide +kernel)
structure Blob where
  owner : Int
  num : Int
  cipher : List UInt8
  tag : Dig
def blob0 : Blob := ⟨0, 0, [], dig0⟩
def blobPs (x : Blob) : List AV := [.int .i64 x.owner, .int .i64 x.num, .str x.cipher, .dig x.tag]
abbrev blobV (x : Blob) : AV := .agg (blobPs x)
theorem blobPs_0 {x : Blob} : (blobPs x)[0]? = some (.int .i64 x.owner) := nr rfl
theorem blobAt_0 {x : Blob} {v : AV} : partIs Try.prog 72 (blobPs x) 0 v = fits Try.prog 3 v := by rw [partIs_of (o := 0) (T := 3) (by kernel_rfl)]; simp [blobPs, AV.sizes, AV.size]
theorem blobPs_1 {x : Blob} : (blobPs x)[1]? = some (.int .i64 x.num) := nr rfl
theorem blobAt_1 {x : Blob} {v : AV} : partIs Try.prog 72 (blobPs x) 1 v = fits Try.prog 3 v := by rw [partIs_of (o := 1) (T := 3) (by kernel_rfl)]; simp [blobPs, AV.sizes, AV.size]
theorem blobPs_2 {x : Blob} : (blobPs x)[2]? = some (.str x.cipher) := nr rfl
theorem blobAt_2 {x : Blob} {v : AV} : partIs Try.prog 72 (blobPs x) 2 v = fits Try.prog 9 v := by rw [partIs_of (o := 2) (T := 9) (by kernel_rfl)]; simp [blobPs, AV.sizes, AV.size]
theorem blobPs_3 {x : Blob} : (blobPs x)[3]? = some (.dig x.tag) := nr rfl
theorem blobAt_3 {x : Blob} {v : AV} : partIs Try.prog 72 (blobPs x) 3 v = fits Try.prog 65 v := by rw [partIs_of (o := 3) (T := 65) (by kernel_rfl)]; simp [blobPs, AV.sizes, AV.size]
theorem sizes_blob {x : Blob} : AV.sizes (blobPs x) = 35 := by simp [blobPs, AV.sizes, AV.size]
theorem shapes_blob {x : Blob} : AV.shapes (blobPs x) = [.leaf, .leaf, .leaf, .dig] := by simp [blobPs, AV.shapes, AV.shape]
theorem fits_blob {v : AV} : fits Try.prog 72 v = (v.isAgg = true ∧ v.size = 35) := fits_agg (by kernel_rfl) (by kernel_rfl)
theorem zero_blob : zeroA Try.prog 12 72 = .agg (blobPs blob0) := by kernel_rfl
theorem zt_blob : ZeroOf Try.prog 72 (.agg (blobPs blob0)) = True := eq_true ⟨_, _, rfl, rfl, rfl, rfl, rfl⟩
theorem built_blob : Built Try.prog 72 = True := eq_true (by unfold Built; rw [Try.underlying72]; decide +kernel)
theorem strip_blob {x : Blob} : AV.strips (blobPs x) = blobPs x := by simp [blobPs, AV.strips, AV.strip]
structure Msg where
  kind : Int
  client : Int
  sub : Sub
  rep : Rep
  view : List UInt8
  by_ : Int
  tag : Dig
  own : Dig
  blob : Blob
  nums : List Int
def msg0 : Msg := ⟨0, 0, sub0, rep0, [], 0, dig0, dig0, blob0, []⟩
def msgPs (t0 t1 : Tk) (x : Msg) : List AV := [.int .i64 x.kind, .int .i64 x.client, .agg (subPs x.sub), .agg (repPs t0 x.rep), .str x.view, .int .i64 x.by_, .dig x.tag, .dig x.own, .agg (blobPs x.blob), .slice t1 (x.nums.map (AV.int .i64))]
abbrev msgV (t0 t1 : Tk) (x : Msg) : AV := .agg (msgPs t0 t1 x)
theorem msgPs_0 {t0 t1 : Tk} {x : Msg} : (msgPs t0 t1 x)[0]? = some (.int .i64 x.kind) := nr rfl
theorem msgAt_0 {t0 t1 : Tk} {x : Msg} {v : AV} : partIs Try.prog 74 (msgPs t0 t1 x) 0 v = fits Try.prog 3 v := by rw [partIs_of (o := 0) (T := 3) (by kernel_rfl)]; simp [msgPs, AV.sizes, AV.size]
theorem msgSet_0 {t0 t1 : Tk} {x : Msg} {y : Int} : (msgPs t0 t1 x).set 0 (.int .i64 y) = msgPs t0 t1 { x with kind := y } := nr rfl
theorem msgPs_1 {t0 t1 : Tk} {x : Msg} : (msgPs t0 t1 x)[1]? = some (.int .i64 x.client) := nr rfl
theorem msgAt_1 {t0 t1 : Tk} {x : Msg} {v : AV} : partIs Try.prog 74 (msgPs t0 t1 x) 1 v = fits Try.prog 3 v := by rw [partIs_of (o := 1) (T := 3) (by kernel_rfl)]; simp [msgPs, AV.sizes, AV.size]
theorem msgSet_1 {t0 t1 : Tk} {x : Msg} {y : Int} : (msgPs t0 t1 x).set 1 (.int .i64 y) = msgPs t0 t1 { x with client := y } := nr rfl
theorem msgPs_2 {t0 t1 : Tk} {x : Msg} : (msgPs t0 t1 x)[2]? = some (.agg (subPs x.sub)) := nr rfl
theorem msgAt_2 {t0 t1 : Tk} {x : Msg} {v : AV} : partIs Try.prog 74 (msgPs t0 t1 x) 2 v = fits Try.prog 67 v := by rw [partIs_of (o := 2) (T := 67) (by kernel_rfl)]; simp [msgPs, AV.sizes, AV.size]
theorem msgSet_2 {t0 t1 : Tk} {x : Msg} {y : Sub} : (msgPs t0 t1 x).set 2 (.agg (subPs y)) = msgPs t0 t1 { x with sub := y } := nr rfl
theorem msgPs_3 {t0 t1 : Tk} {x : Msg} : (msgPs t0 t1 x)[3]? = some (.agg (repPs t0 x.rep)) := nr rfl
theorem msgAt_3 {t0 t1 : Tk} {x : Msg} {v : AV} : partIs Try.prog 74 (msgPs t0 t1 x) 3 v = fits Try.prog 70 v := by rw [partIs_of (o := 70) (T := 70) (by kernel_rfl)]; simp [msgPs, AV.sizes, AV.size, sizes_sub]
theorem msgSet_3 {t0 t1 : Tk} {u0 : Tk} {x : Msg} {y : Rep} : (msgPs t0 t1 x).set 3 (.agg (repPs u0 y)) = msgPs u0 t1 { x with rep := y } := nr rfl
theorem msgPs_4 {t0 t1 : Tk} {x : Msg} : (msgPs t0 t1 x)[4]? = some (.str x.view) := nr rfl
theorem msgAt_4 {t0 t1 : Tk} {x : Msg} {v : AV} : partIs Try.prog 74 (msgPs t0 t1 x) 4 v = fits Try.prog 9 v := by rw [partIs_of (o := 173) (T := 9) (by kernel_rfl)]; simp [msgPs, AV.sizes, AV.size, sizes_sub, sizes_rep]
theorem msgSet_4 {t0 t1 : Tk} {x : Msg} {y : List UInt8} : (msgPs t0 t1 x).set 4 (.str y) = msgPs t0 t1 { x with view := y } := nr rfl
theorem msgPs_5 {t0 t1 : Tk} {x : Msg} : (msgPs t0 t1 x)[5]? = some (.int .i64 x.by_) := nr rfl
theorem msgAt_5 {t0 t1 : Tk} {x : Msg} {v : AV} : partIs Try.prog 74 (msgPs t0 t1 x) 5 v = fits Try.prog 3 v := by rw [partIs_of (o := 174) (T := 3) (by kernel_rfl)]; simp [msgPs, AV.sizes, AV.size, sizes_sub, sizes_rep]
theorem msgSet_5 {t0 t1 : Tk} {x : Msg} {y : Int} : (msgPs t0 t1 x).set 5 (.int .i64 y) = msgPs t0 t1 { x with by_ := y } := nr rfl
theorem msgPs_6 {t0 t1 : Tk} {x : Msg} : (msgPs t0 t1 x)[6]? = some (.dig x.tag) := nr rfl
theorem msgAt_6 {t0 t1 : Tk} {x : Msg} {v : AV} : partIs Try.prog 74 (msgPs t0 t1 x) 6 v = fits Try.prog 65 v := by rw [partIs_of (o := 175) (T := 65) (by kernel_rfl)]; simp [msgPs, AV.sizes, AV.size, sizes_sub, sizes_rep]
theorem msgSet_6 {t0 t1 : Tk} {x : Msg} {y : Dig} : (msgPs t0 t1 x).set 6 (.dig y) = msgPs t0 t1 { x with tag := y } := nr rfl
theorem msgPs_7 {t0 t1 : Tk} {x : Msg} : (msgPs t0 t1 x)[7]? = some (.dig x.own) := nr rfl
theorem msgAt_7 {t0 t1 : Tk} {x : Msg} {v : AV} : partIs Try.prog 74 (msgPs t0 t1 x) 7 v = fits Try.prog 65 v := by rw [partIs_of (o := 207) (T := 65) (by kernel_rfl)]; simp [msgPs, AV.sizes, AV.size, sizes_sub, sizes_rep]
theorem msgSet_7 {t0 t1 : Tk} {x : Msg} {y : Dig} : (msgPs t0 t1 x).set 7 (.dig y) = msgPs t0 t1 { x with own := y } := nr rfl
theorem msgPs_8 {t0 t1 : Tk} {x : Msg} : (msgPs t0 t1 x)[8]? = some (.agg (blobPs x.blob)) := nr rfl
theorem msgAt_8 {t0 t1 : Tk} {x : Msg} {v : AV} : partIs Try.prog 74 (msgPs t0 t1 x) 8 v = fits Try.prog 72 v := by rw [partIs_of (o := 239) (T := 72) (by kernel_rfl)]; simp [msgPs, AV.sizes, AV.size, sizes_sub, sizes_rep]
theorem msgSet_8 {t0 t1 : Tk} {x : Msg} {y : Blob} : (msgPs t0 t1 x).set 8 (.agg (blobPs y)) = msgPs t0 t1 { x with blob := y } := nr rfl
theorem msgPs_9 {t0 t1 : Tk} {x : Msg} : (msgPs t0 t1 x)[9]? = some (.slice t1 (x.nums.map (AV.int .i64))) := nr rfl
theorem msgAt_9 {t0 t1 : Tk} {x : Msg} {v : AV} : partIs Try.prog 74 (msgPs t0 t1 x) 9 v = fits Try.prog 50 v := by rw [partIs_of (o := 274) (T := 50) (by kernel_rfl)]; simp [msgPs, AV.sizes, AV.size, sizes_sub, sizes_rep, sizes_blob]
theorem sizes_msg {t0 t1 : Tk} {x : Msg} : AV.sizes (msgPs t0 t1 x) = 275 := by simp [msgPs, AV.sizes, AV.size, sizes_sub, sizes_rep, sizes_blob]
theorem shapes_msg {t0 t1 : Tk} {x : Msg} : AV.shapes (msgPs t0 t1 x) = [.leaf, .leaf, .node [.leaf, .leaf, .leaf, .leaf, .dig, .dig], .node [.leaf, .leaf, .leaf, .dig, .leaf, .leaf, .leaf, .dig, .leaf, .dig], .leaf, .leaf, .dig, .dig, .node [.leaf, .leaf, .leaf, .dig], .leaf] := by simp [msgPs, AV.shapes, AV.shape, shapes_sub, shapes_rep, shapes_blob]
theorem fits_msg {v : AV} : fits Try.prog 74 v = (v.isAgg = true ∧ v.size = 275) := fits_agg (by kernel_rfl) (by kernel_rfl)
theorem zero_msg : zeroA Try.prog 12 74 = .agg (msgPs .full .full msg0) := by kernel_rfl
theorem zt_msg : ZeroOf Try.prog 74 (.agg (msgPs .full .full msg0)) = True := eq_true ⟨_, _, rfl, rfl, rfl, rfl, rfl⟩
theorem built_msg : Built Try.prog 74 = True := eq_true (by unfold Built; rw [Try.underlying74]; decide +kernel)
structure At where
  n : Int
  e : Int
end Go.Aff.L10

namespace Go.Aff.L21
open Go.Proofs Go.Aff Go.Aff.L01 Classical
set_option maxRecDepth 20000
attribute [local go_sem] push_app app_app length_app cellAt_app cellAt_app0 set_app set_app0 objs_app objs_app0 List.cons_append List.nil_append List.length_cons List.length_nil List.getElem?_cons_zero List.getElem?_cons_succ List.set_cons_zero List.set_cons_succ
attribute [-go_sem] cellAt_new
attribute [local go_sem] Try.underlying9 Try.underlying43 Try.underlying50
attribute [local go_sem] fits3 fits9
attribute [local go_sem ↓] blockQ_exit2
attribute [local go_sem] List.length_map
attribute [-simp] List.length_flatMap

def Goes (σ s : AST) (tk tk' : Tk) : Prop := s.objs = σ.objs ∧ ∀ σ0, Ext σ0 σ → tkNew σ0 tk → Ext σ0 s ∧ tkNew σ0 tk'
theorem Goes.refl {σ : AST} {tk : Tk} : Goes σ σ tk tk := ⟨rfl, fun _ h k => ⟨h, k⟩⟩
theorem Goes.grow {σ s : AST} {tk tk' : Tk} {n : Nat} (h : Goes σ s tk tk') : Goes σ (growS s tk' n 1) tk (growT s tk') := ⟨growS_objs.trans h.1, fun σ0 h0 k0 =>
  have ⟨h1, h2⟩ := h.2 σ0 h0 k0; ⟨h1.grow h2, h2.grow h1⟩⟩
theorem Goes.cell {σ s : AST} {tk tk' : Tk} {l : List AObj} {v : AV} (h : Goes (σ.app l) s tk tk') (hl : l[0]? = some (.cells v)) (p : List Nat) : cellAt s σ.objs.length p = v.at p := by
  simp only [cellAt, h.1]
  rw [objs_app0, hl]; rfl
theorem flatN {α : Type} {f : α → List UInt8} {l : List α} {m i : Nat} (h : ∀ x ∈ l, (f x).length ≤ m) : ((l.take i).flatMap f).length ≤ l.length * m := by
  have := flat_len (f := f) (m := m) (l := l.take i) (fun x hx => h x (List.mem_of_mem_take hx))
  have h2 : (l.take i).length * m ≤ l.length * m := Nat.mul_le_mul_right m (by simp; omega)
  omega
def InI (l : List Int) : Prop := ∀ n ∈ l, -9223372036854775808 ≤ n ∧ n ≤ 9223372036854775807
theorem numsN {l : List Int} (hl : InI l) : ∀ i, ((l.take i).flatMap numS).length ≤ l.length * 22 := fun i => flatN fun n hn => numS_len (hl n hn).1 (hl n hn).2

theorem Goes.gr {σ s σ0 : AST} {tk tk' : Tk} {n m : Nat} (h : Goes σ s tk tk') (hg : Gr σ0 σ tk n) (hc : canApp s tk' m 1) : Gr σ0 s tk' m := ⟨(h.2 σ0 hg.x hg.t).1, (h.2 σ0 hg.x hg.t).2, hc⟩
theorem intsB_c {xs : List UInt8} {l : List Int} {tk t2 : Tk} {σ : AST} {K : AV → AST → Prop} (hl : InI l) (hn : l.length ≤ 1000000) (hx : xs.length ≤ 1000000000) (hcan : canApp σ tk xs.length 1)
    (hK : ∀ s tk', Goes σ s tk tk' → canApp s tk' (xs ++ l.flatMap numS).length 1 → K (.slice tk' (u8s (xs ++ l.flatMap numS))) s) : TCalls Try.prog 100 [.slice tk (u8s xs), .slice t2 (l.map (AV.int .i64))] σ K := by
  have hN := numsN hl
  refine tcalls_walk Try.f100 _ [.tmp 4] Try.func100 rfl rfl rfl mixed (Nat.le_of_ble_eq_true rfl) rfl fun hlen => ?_
  simp -dsimp only [↓reduceIte, go_sem]
  refine arr_intro fun _ => ?_
  simp only [List.length_map]
  simp -dsimp only [↓reduceIte, go_sem]
  refine awp_rounds (fun (i : Nat) τ s => ∃ tk', i ≤ l.length ∧ Goes σ s tk tk' ∧ canApp s tk' (xs ++ (l.take i).flatMap numS).length 1 ∧ τ 0 = .slice tk' (u8s (xs ++ (l.take i).flatMap numS)) ∧ τ 7 = .slice t2 (l.map (AV.int .i64)) ∧ τ 8 = .int .i64 l.length ∧ τ 9 = .int .i64 i) (fun i => l.length - i) 0 ?_ ?_
  · refine ⟨tk, by omega, Goes.refl, by simpa using hcan, ?_, ?_, ?_, ?_⟩ <;> (try simp only [go_sem]) <;> (try rfl) <;> simp
  · rintro i τ s ⟨tk', hi, hg, hc, t0, t7, t8, t9⟩
    simp -dsimp only [↓reduceIte, go_sem, t0, t7, t8, t9]
    refine boolW_split (fun hb => ?_) (fun hb => ?_)
    · have hb : i < l.length := by simp at hb; omega
      obtain ⟨y, hy⟩ := get_lt hb
      have hyl := hl y (List.mem_of_getElem? hy)
      have h22 := numS_len hyl.1 hyl.2
      have hNi := hN i
      repeat' (first | (simp -dsimp only [↓reduceIte, go_sem, t0, t7, t8, t9]) | (refine arr_intro fun _ => ?_) | (refine later_intro ⟨keeps_nil, ?_⟩) | (refine later_intro ⟨keeps_refl, ?_⟩) | (with_reducible refine keeps_go ?_ ?_; focus (first | (simp [keeps_cons, keeps_none, objs_app, objs_app0]; done) | (simp only [keeps_cons, keeps_none, objs_app0, objs_app, and_true]; first | rfl | exact ⟨rfl, rfl⟩ | exact ⟨rfl, rfl, rfl⟩))) | (with_reducible refine (And.intro (a := keeps _ _ _) ?_ ?_); focus (first | (simp [keeps_cons, keeps_none, objs_app, objs_app0]; done) | (simp only [keeps_cons, keeps_none, objs_app0, objs_app, and_true]; first | rfl | exact ⟨rfl, rfl⟩ | exact ⟨rfl, rfl, rfl⟩))) | (refine both_ways ?_ ?_) | (rw [wrap_i64 (by omega) (by omega)]) | (refine guardV_split (fun h => ?_) (fun h => ?_) <;> (try rw [h]) <;> (try simp at h) <;> (try (exfalso; omega))) | (refine nth_get hy ?_) | (refine number_c hyl.1 hyl.2 ?_) | (refine append_text E51 Try.underlying9 hc (by simp only [List.length_append]; omega) (by simp only [maxL, List.length_append]; omega) ?_))
      have e : (l.take (i + 1)).flatMap numS = (l.take i).flatMap numS ++ numS y := flat_take hy
      refine later_intro ⟨i + 1, by omega, growT s tk', by omega, hg.grow, ?_, ?_, ?_, ?_, ?_⟩ <;> (try simp only [go_sem, t0, t7, t8, t9]) <;> (try rfl)
      · rw [e, ← List.append_assoc]; simp only [List.length_append]; exact canApp_grow hc
      · rw [e, List.append_assoc]
    · have hb : i = l.length := by simp at hb; omega
      rw [hb, List.take_length] at t0 hc
      repeat' (first | (simp -dsimp only [↓reduceIte, go_sem, t0, t7, t8, t9]) | (refine arr_intro fun _ => ?_) | (refine later_intro ⟨keeps_nil, ?_⟩) | (refine later_intro ⟨keeps_refl, ?_⟩) | (with_reducible refine keeps_go ?_ ?_; focus (first | (simp [keeps_cons, keeps_none, objs_app, objs_app0]; done) | (simp only [keeps_cons, keeps_none, objs_app0, objs_app, and_true]; first | rfl | exact ⟨rfl, rfl⟩ | exact ⟨rfl, rfl, rfl⟩))) | (with_reducible refine (And.intro (a := keeps _ _ _) ?_ ?_); focus (first | (simp [keeps_cons, keeps_none, objs_app, objs_app0]; done) | (simp only [keeps_cons, keeps_none, objs_app0, objs_app, and_true]; first | rfl | exact ⟨rfl, rfl⟩ | exact ⟨rfl, rfl, rfl⟩))) | (refine both_ways ?_ ?_) | (rw [wrap_i64 (by omega) (by omega)]) | (refine guardV_split (fun h => ?_) (fun h => ?_) <;> (try rw [h]) <;> (try simp at h) <;> (try (exfalso; omega))))
      exact hK _ _ hg hc

theorem Ints_c {l : List Int} {tk : Tk} {σ : AST} {K : AV → AST → Prop} (hl : InI l) (hn : l.length ≤ 1000000) (hK : K (.str (l.flatMap numS)) σ) : TCalls Try.prog 68 [.slice tk (l.map (AV.int .i64))] σ K := by
  have hN := numsN hl
  refine tcalls_walk Try.f68 _ [.tmp 2] Try.func68 rfl rfl rfl mixed (Nat.le_of_ble_eq_true rfl) rfl fun hlen => ?_
  simp -dsimp only [↓reduceIte, go_sem]
  refine awp_rounds (fun (i : Nat) τ s => s = σ ∧ i ≤ l.length ∧ τ 0 = .slice tk (l.map (AV.int .i64)) ∧ τ 3 = .str ((l.take i).flatMap numS) ∧ τ 4 = .int .i64 i) (fun i => l.length - i) 0 ?_ ?_
  · refine ⟨rfl, by omega, ?_, ?_, ?_⟩ <;> (try simp only [go_sem]) <;> rfl
  · rintro i τ s ⟨rfl, hi, t0, t3, t4⟩
    simp -dsimp only [↓reduceIte, go_sem, t0, t3, t4]
    refine arr_intro fun _ => ?_
    simp only [List.length_map]
    simp -dsimp only [↓reduceIte, go_sem, t0, t3, t4]
    refine boolW_split (fun hb => ?_) (fun hb => ?_)
    · have hb : i < l.length := by simp at hb; omega
      obtain ⟨y, hy⟩ := get_lt hb
      have hyl := hl y (List.mem_of_getElem? hy)
      have h22 := numS_len hyl.1 hyl.2
      have hNi := hN i
      repeat' (first | (simp -dsimp only [↓reduceIte, go_sem, t0, t3, t4]) | (refine arr_intro fun _ => ?_) | (refine later_intro ⟨keeps_nil, ?_⟩) | (refine later_intro ⟨keeps_refl, ?_⟩) | (with_reducible refine keeps_go ?_ ?_; focus (first | (simp [keeps_cons, keeps_none, objs_app, objs_app0]; done) | (simp only [keeps_cons, keeps_none, objs_app0, objs_app, and_true]; first | rfl | exact ⟨rfl, rfl⟩ | exact ⟨rfl, rfl, rfl⟩))) | (with_reducible refine (And.intro (a := keeps _ _ _) ?_ ?_); focus (first | (simp [keeps_cons, keeps_none, objs_app, objs_app0]; done) | (simp only [keeps_cons, keeps_none, objs_app0, objs_app, and_true]; first | rfl | exact ⟨rfl, rfl⟩ | exact ⟨rfl, rfl, rfl⟩))) | (refine both_ways ?_ ?_) | (rw [wrap_i64 (by omega) (by omega)]) | (refine guardV_split (fun h => ?_) (fun h => ?_) <;> (try rw [h]) <;> (try simp at h) <;> (try (exfalso; omega))) | (refine nth_get hy ?_) | (refine Number_c hyl.1 hyl.2 ?_) | (refine side_later (by simp only [maxL]; omega) ?_))
      refine later_intro ⟨i + 1, by omega, rfl, by omega, ?_, ?_, ?_⟩ <;> (try simp only [go_sem, t0, t3, t4, flat_take hy]) <;> rfl
    · have hb : i = l.length := by simp at hb; omega
      rw [hb, List.take_length] at t3
      repeat' (first | (simp -dsimp only [↓reduceIte, go_sem, t0, t3, t4]) | (refine arr_intro fun _ => ?_) | (refine later_intro ⟨keeps_nil, ?_⟩) | (refine later_intro ⟨keeps_refl, ?_⟩) | (with_reducible refine keeps_go ?_ ?_; focus (first | (simp [keeps_cons, keeps_none, objs_app, objs_app0]; done) | (simp only [keeps_cons, keeps_none, objs_app0, objs_app, and_true]; first | rfl | exact ⟨rfl, rfl⟩ | exact ⟨rfl, rfl, rfl⟩))) | (with_reducible refine (And.intro (a := keeps _ _ _) ?_ ?_); focus (first | (simp [keeps_cons, keeps_none, objs_app, objs_app0]; done) | (simp only [keeps_cons, keeps_none, objs_app0, objs_app, and_true]; first | rfl | exact ⟨rfl, rfl⟩ | exact ⟨rfl, rfl, rfl⟩))) | (refine both_ways ?_ ?_) | (rw [wrap_i64 (by omega) (by omega)]) | (refine guardV_split (fun h => ?_) (fun h => ?_) <;> (try rw [h]) <;> (try simp at h) <;> (try (exfalso; omega))))
      exact hK

theorem Text_c {s : List UInt8} {σ : AST} {K : AV → AST → Prop} (hn : s.length ≤ 1000000000) (hK : K (.str (textS s)) σ) : TCalls Try.prog 69 [.str s] σ K := by
  have h20 := dg_len20 (n := s.length) (by omega)
  refine tcalls_walk Try.f69 _ [.tmp 2] Try.func69 rfl rfl rfl mixed (Nat.le_of_ble_eq_true rfl) rfl fun hlen => ?_
  repeat' (first | (simp -dsimp only [↓reduceIte, go_sem]) | (refine arr_intro fun _ => ?_) | (refine later_intro ⟨keeps_nil, ?_⟩) | (refine later_intro ⟨keeps_refl, ?_⟩) | (with_reducible refine keeps_go ?_ ?_; focus (first | (simp [keeps_cons, keeps_none, objs_app, objs_app0]; done) | (simp only [keeps_cons, keeps_none, objs_app0, objs_app, and_true]; first | rfl | exact ⟨rfl, rfl⟩ | exact ⟨rfl, rfl, rfl⟩))) | (with_reducible refine (And.intro (a := keeps _ _ _) ?_ ?_); focus (first | (simp [keeps_cons, keeps_none, objs_app, objs_app0]; done) | (simp only [keeps_cons, keeps_none, objs_app0, objs_app, and_true]; first | rfl | exact ⟨rfl, rfl⟩ | exact ⟨rfl, rfl, rfl⟩))) | (refine both_ways ?_ ?_) | (rw [wrap_i64 (by omega) (by omega)]) | (refine guardV_split (fun h => ?_) (fun h => ?_) <;> (try rw [h]) <;> (try simp at h) <;> (try (exfalso; omega))) | (refine Digits_i (by omega) (by omega) ?_) | (refine side_later (by simp only [maxL, List.length_append, List.length_cons, List.length_nil, Int.toNat_natCast]; omega) ?_))
  exact hK

theorem Texts_c {l : List (List UInt8)} {tk : Tk} {σ : AST} {K : AV → AST → Prop} (hl : ∀ s ∈ l, s.length ≤ 1000) (hn : l.length ≤ 1000000) (hK : K (.str (laidAll textS l)) σ) : TCalls Try.prog 81 [.slice tk (l.map AV.str)] σ K := by
  have hN : ∀ i, ((l.take i).flatMap textS).length ≤ l.length * 1021 := fun i => flatN fun s hs => by
    have := hl s hs; have h2 := dg_len20 (n := s.length) (by omega); simp only [textS, List.length_append, List.length_cons, List.length_nil]; omega
  refine tcalls_walk Try.f81 _ [.tmp 2] Try.func81 rfl rfl rfl mixed (Nat.le_of_ble_eq_true rfl) rfl fun hlen => ?_
  simp -dsimp only [↓reduceIte, go_sem]
  refine awp_rounds (fun (i : Nat) τ s => s = σ ∧ i ≤ l.length ∧ τ 0 = .slice tk (l.map AV.str) ∧ τ 3 = .str (L01.part textS l i) ∧ τ 4 = .int .i64 i) (fun i => l.length - i) 0 ?_ ?_
  · refine ⟨rfl, by omega, ?_, ?_, ?_⟩ <;> (try simp only [go_sem]) <;> rfl
  · rintro i τ s ⟨rfl, hi, t0, t3, t4⟩
    have hNi := hN i
    have hp : (L01.part textS l i).length ≤ 1 + l.length * 1021 := by simp only [L01.part, List.length_cons]; omega
    simp -dsimp only [↓reduceIte, go_sem, t0, t3, t4]
    refine arr_intro fun _ => ?_
    simp only [List.length_map]
    simp -dsimp only [↓reduceIte, go_sem, t0, t3, t4]
    refine boolW_split (fun hb => ?_) (fun hb => ?_)
    · have hb : i < l.length := by simp at hb; omega
      obtain ⟨y, hy⟩ := get_lt hb
      have hyl := hl y (List.mem_of_getElem? hy)
      have h2 := dg_len20 (n := y.length) (by omega)
      repeat' (first | (simp -dsimp only [↓reduceIte, go_sem, t0, t3, t4]) | (refine arr_intro fun _ => ?_) | (refine later_intro ⟨keeps_nil, ?_⟩) | (refine later_intro ⟨keeps_refl, ?_⟩) | (with_reducible refine keeps_go ?_ ?_; focus (first | (simp [keeps_cons, keeps_none, objs_app, objs_app0]; done) | (simp only [keeps_cons, keeps_none, objs_app0, objs_app, and_true]; first | rfl | exact ⟨rfl, rfl⟩ | exact ⟨rfl, rfl, rfl⟩))) | (with_reducible refine (And.intro (a := keeps _ _ _) ?_ ?_); focus (first | (simp [keeps_cons, keeps_none, objs_app, objs_app0]; done) | (simp only [keeps_cons, keeps_none, objs_app0, objs_app, and_true]; first | rfl | exact ⟨rfl, rfl⟩ | exact ⟨rfl, rfl, rfl⟩))) | (refine both_ways ?_ ?_) | (rw [wrap_i64 (by omega) (by omega)]) | (refine guardV_split (fun h => ?_) (fun h => ?_) <;> (try rw [h]) <;> (try simp at h) <;> (try (exfalso; omega))) | (refine nth_get hy ?_) | (refine Text_c (by omega) ?_) | (refine side_later (by simp only [maxL, textS, List.length_append, List.length_cons, List.length_nil]; omega) ?_))
      refine later_intro ⟨i + 1, by omega, rfl, by omega, ?_, ?_, ?_⟩ <;> (try simp only [go_sem, t0, t3, t4, part_succ hy]) <;> rfl
    · have hb : i = l.length := by simp at hb; omega
      rw [hb] at t3 hp
      repeat' (first | (simp -dsimp only [↓reduceIte, go_sem, t0, t3, t4]) | (refine arr_intro fun _ => ?_) | (refine later_intro ⟨keeps_nil, ?_⟩) | (refine later_intro ⟨keeps_refl, ?_⟩) | (with_reducible refine keeps_go ?_ ?_; focus (first | (simp [keeps_cons, keeps_none, objs_app, objs_app0]; done) | (simp only [keeps_cons, keeps_none, objs_app0, objs_app, and_true]; first | rfl | exact ⟨rfl, rfl⟩ | exact ⟨rfl, rfl, rfl⟩))) | (with_reducible refine (And.intro (a := keeps _ _ _) ?_ ?_); focus (first | (simp [keeps_cons, keeps_none, objs_app, objs_app0]; done) | (simp only [keeps_cons, keeps_none, objs_app0, objs_app, and_true]; first | rfl | exact ⟨rfl, rfl⟩ | exact ⟨rfl, rfl, rfl⟩))) | (refine both_ways ?_ ?_) | (rw [wrap_i64 (by omega) (by omega)]) | (refine guardV_split (fun h => ?_) (fun h => ?_) <;> (try rw [h]) <;> (try simp at h) <;> (try (exfalso; omega))) | (refine side_later (by simp only [maxL, List.length_append, List.length_cons, List.length_nil]; omega) ?_))
      exact hK
end Go.Aff.L21

namespace Go.Aff.L21
open Go.Proofs Go.Aff Go.Aff.L01 Classical
set_option maxRecDepth 20000
attribute [local go_sem] push_app app_app length_app cellAt_app cellAt_app0 set_app set_app0 objs_app objs_app0 List.cons_append List.nil_append List.length_cons List.length_nil List.getElem?_cons_zero List.getElem?_cons_succ List.set_cons_zero List.set_cons_succ
attribute [-go_sem] cellAt_new
attribute [local go_sem] Try.underlying5 Try.underlying9 Try.underlying22 fits29 Try.underlying123 fits44 fits46 p46_0 p46_1 p46_2 p46_3 p46_4 p46_5 Try.underlying84
attribute [local go_sem] fits3
attribute [local go_sem ↓] blockQ_exit2
attribute [local go_sem] List.length_map
attribute [-simp] List.length_flatMap
attribute [local go_sem] zt46 zero46 agg_leaf known_leaf

def numsB (l : List Int) : List UInt8 := if 512 < l.length then [] else laidAll numS l
def numsE (l : List Int) : Int := if 512 < l.length then 4 else 0
theorem numbersB_c {l : List Int} (hl : InI l) {tk0 : Tk} {σ : AST} {K : AV → AST → Prop} (hK : K (.tuple [.str (numsB l), .int .i64 (numsE l)]) σ) : TCalls Try.prog 101 [.slice tk0 (l.map (AV.int .i64))] σ K := by
  refine numbers_c hl ?_
  unfold numsB numsE at hK
  split <;> rename_i h <;> simpa [h] using hK
noncomputable def textsB (l : List (List UInt8)) : List UInt8 := if 512 < l.length ∨ ∃ s ∈ l, 16384 < s.length then [] else laidAll textS l
noncomputable def textsE (l : List (List UInt8)) : Int := if 512 < l.length ∨ ∃ s ∈ l, 16384 < s.length then 4 else 0
theorem textsB_c {l : List (List UInt8)} {tk0 : Tk} {σ : AST} {K : AV → AST → Prop} (hK : K (.tuple [.str (textsB l), .int .i64 (textsE l)]) σ) : TCalls Try.prog 102 [.slice tk0 (l.map AV.str)] σ K := by
  refine texts_c ?_
  unfold textsB textsE at hK
  unfold textsR
  split
  · rename_i h; rw [if_pos h, if_pos h] at hK; exact hK
  · rename_i h; rw [if_neg h, if_neg h] at hK; exact hK

noncomputable def leafG (x : Leaf) : List UInt8 := [x.num, x.kind, x.size].flatMap numS ++ numsB x.blocks ++ textsB x.names ++ numsB x.nodes
def leafS (x : Leaf) : List UInt8 := [x.num, x.kind, x.size].flatMap numS ++ laidAll numS x.blocks ++ laidAll textS x.names ++ laidAll numS x.nodes
theorem numsB_len {l : List Int} (hl : InI l) : (numsB l).length ≤ 11300 := by
  unfold numsB
  split
  · simp
  · rename_i h
    have := numsN hl l.length
    rw [List.take_length] at this
    simp only [laidAll, part_all, List.length_append, List.length_cons, List.length_nil]; omega
theorem textsB_len {l : List (List UInt8)} (h : ∀ s ∈ l, s.length ≤ 12) : (textsB l).length ≤ 17000 := by
  unfold textsB
  split
  · simp
  · rename_i h2
    have h3 : ¬ 512 < l.length := fun h => h2 (.inl h)
    have := flat_len (f := textS) (m := 33) (l := l) fun s hs => by
      have := h s hs; have h2 := dg_len20 (n := s.length) (by omega); simp only [textS, List.length_append, List.length_cons, List.length_nil]; omega
    simp only [laidAll, part_all, List.length_append, List.length_cons, List.length_nil]; omega
theorem Leaf.Right.ints {x : Leaf} (h : x.Right) : InI x.blocks ∧ InI x.nodes ∧ InI [x.num, x.kind, x.size] ∧ ∀ s ∈ x.names, s.length ≤ 12 := by
  obtain ⟨h1, h2, h3⟩ := h
  rcases h3 with ⟨hk, hb, h0, h5, hl, hn, hd⟩ | ⟨hk, hn, hd, h0, hb, hl⟩
  · refine ⟨fun n hn => by have := hb n hn; omega, by rw [hd]; intro n hn; simp at hn, ?_, by rw [hn]; intro n hn; simp at hn⟩
    intro n hn; simp at hn; omega
  · refine ⟨by rw [hb]; intro n hn; simp at hn, fun n hn => by have := hd n hn; omega, ?_, ?_⟩
    · intro n hn; simp at hn; omega
    · intro s hs
      obtain ⟨i, hi⟩ := List.mem_iff_getElem?.1 hs
      have := (hn i s hi).1
      simp only [nameB, decide_eq_true_eq] at this
      exact this.2.1
theorem leafG_len {x : Leaf} (h : x.Right) : (leafG x).length ≤ 40000 := by
  obtain ⟨h1, h2, h3, h4⟩ := h.ints
  have := numsN h3 3
  have h5 := numsB_len h1
  have h6 := numsB_len h2
  have h7 := textsB_len h4
  simp only [List.take_succ_cons, List.take_zero, List.length_cons, List.length_nil] at this
  simp only [leafG, List.length_append]; omega
theorem table_len {l : List Leaf} (h : Table l) : l.length ≤ 32 := by
  have key : ∀ (i : Nat) x, l[i]? = some x → (i : Int) + 1 ≤ x.num := by
    intro i
    induction i with
    | zero => intro x hx; have := (h 0 x hx).1.1; omega
    | succ i ih =>
      intro x hx
      obtain ⟨z, hz⟩ := get_lt (l := l) (i := i) (by have := (List.getElem?_eq_some_iff.1 hx).1; omega)
      have h1 := (h (i + 1) x hx).2 z (by omega) (by simpa using hz)
      have := ih z hz; omega
  by_cases h0 : l.length = 0
  · omega
  · obtain ⟨z, hz⟩ := get_lt (l := l) (i := l.length - 1) (by omega)
    have := key _ z hz; have := (h _ z hz).1.2.1; omega
noncomputable def putG (l : List Leaf) : List UInt8 × Int := if Table l then (if 4096 < (l.flatMap leafG).length then ([], 4) else (l.flatMap leafG, 0)) else ([], 2)

theorem put_c {l : List TLeaf} {tk : Tk} {σ : AST} {K : AV → AST → Prop} (hK : K (.tuple [.str (putG (l.map (·.x))).1, .int .i64 (putG (l.map (·.x))).2]) σ) : TCalls Try.prog 74 [.slice tk (l.map leafV)] σ K := by
  refine TCalls.drop ?_
  refine tcalls_walk Try.f74 _ [.tmp 2, .tmp 3] Try.func74 rfl rfl rfl mixed (Nat.le_of_ble_eq_true rfl) rfl fun hlen => ?_
  repeat' (first | (simp -dsimp only [↓reduceIte, go_sem]) | (refine arr_intro fun _ => ?_) | (refine later_intro ⟨keeps_nil, ?_⟩) | (refine later_intro ⟨keeps_refl, ?_⟩) | (with_reducible refine keeps_go ?_ ?_; focus (first | (simp [keeps_cons, keeps_none, objs_app, objs_app0]; done) | (simp only [keeps_cons, keeps_none, objs_app0, objs_app, and_true]; first | rfl | exact ⟨rfl, rfl⟩ | exact ⟨rfl, rfl, rfl⟩))) | (with_reducible refine (And.intro (a := keeps _ _ _) ?_ ?_); focus (first | (simp [keeps_cons, keeps_none, objs_app, objs_app0]; done) | (simp only [keeps_cons, keeps_none, objs_app0, objs_app, and_true]; first | rfl | exact ⟨rfl, rfl⟩ | exact ⟨rfl, rfl, rfl⟩))) | (refine both_ways ?_ ?_) | (rw [wrap_i64 (by omega) (by omega)]) | (refine guardV_split (fun h => ?_) (fun h => ?_) <;> (try rw [h]) <;> (try simp at h) <;> (try (exfalso; omega))) | (refine table_c ?_))
  · rw [putG, if_neg ‹_›] at hK; exact ⟨Ext.refl _, rfl, hK⟩
  · have hT : Table (l.map (·.x)) := ‹_›
    rw [putG, if_pos hT] at hK
    have h32 := table_len hT
    have hR : ∀ y ∈ l, y.x.Right := fun y hy => by
      obtain ⟨i, hi⟩ := List.mem_iff_getElem?.1 hy
      exact (hT i y.x (tableAt hi)).1
    have hN : ∀ i, ((l.take i).flatMap fun y => leafG y.x).length ≤ l.length * 40000 := fun i => flatN fun y hy => leafG_len (hR y hy)
    rw [List.length_map] at h32
    refine awp_rounds (fun (i : Nat) τ s => ∃ tk' n, i ≤ l.length ∧ Gr σ s tk' n ∧ n = ((l.take i).flatMap fun y => leafG y.x).length ∧ τ 4 = .slice tk' (u8s ((l.take i).flatMap fun y => leafG y.x)) ∧ τ 16 = .slice tk (l.map leafV) ∧ τ 17 = .int .i64 l.length ∧ τ 18 = .int .i64 i) (fun i => l.length - i) 0 ?_ ?_
    · refine ⟨.full, 0, by omega, Gr.start, rfl, ?_, ?_, ?_, ?_⟩ <;> (try simp only [go_sem]) <;> rfl
    · rintro i τ s ⟨tk', n, hi, hgr, rfl, t4, t16, t17, t18⟩
      simp -dsimp only [↓reduceIte, go_sem, t4, t16, t17, t18]
      refine boolW_split (fun hb => ?_) (fun hb => ?_)
      · have hb : i < l.length := by simp at hb; omega
        obtain ⟨y, hy⟩ := get_lt hb
        have hyR := hR y (List.mem_of_getElem? hy)
        obtain ⟨hi1, hi2, hi3, hi4⟩ := hyR.ints
        have hNi := hN i
        have hG := leafG_len hyR
        have e : (l.take (i + 1)).flatMap (fun y => leafG y.x) = (l.take i).flatMap (fun y => leafG y.x) ++ leafG y.x := flat_take hy
        repeat' (first | (simp -dsimp only [↓reduceIte, go_sem, t4, t16, t17, t18, leafV]) | (refine arr_intro fun _ => ?_) | (refine later_intro ⟨keeps_nil, ?_⟩) | (refine later_intro ⟨keeps_refl, ?_⟩) | (with_reducible refine keeps_go ?_ ?_; focus (first | (simp [keeps_cons, keeps_none, objs_app, objs_app0]; done) | (simp only [keeps_cons, keeps_none, objs_app0, objs_app, and_true]; first | rfl | exact ⟨rfl, rfl⟩ | exact ⟨rfl, rfl, rfl⟩))) | (with_reducible refine (And.intro (a := keeps _ _ _) ?_ ?_); focus (first | (simp [keeps_cons, keeps_none, objs_app, objs_app0]; done) | (simp only [keeps_cons, keeps_none, objs_app0, objs_app, and_true]; first | rfl | exact ⟨rfl, rfl⟩ | exact ⟨rfl, rfl, rfl⟩))) | (refine both_ways ?_ ?_) | (rw [wrap_i64 (by omega) (by omega)]) | (refine guardV_split (fun h => ?_) (fun h => ?_) <;> (try rw [h]) <;> (try simp at h) <;> (try (exfalso; omega))) | (refine nth_get hy ?_) | (refine build_slice E44 rfl (by decide) (by intro v hv; simp at hv; rcases hv with rfl | rfl | rfl <;> exact ⟨by simp only [go_sem], rfl⟩) ?_))
        refine intsB_c (l := [y.x.num, y.x.kind, y.x.size]) hi3 (by simp) (by omega) (by rw [canApp_app]; exact hgr.c) fun s2 tk2 hg hc2 => ?_
        have hcell := hg.cell rfl
        have hgr2 := hg.gr hgr.app hc2
        have l1 := numsB_len hi1
        have l2 := numsB_len hi2
        have l3 := textsB_len hi4
        have l0 := numsN hi3 3
        simp only [List.take_succ_cons, List.take_zero, List.length_cons, List.length_nil] at l0
        repeat' (first | (simp -dsimp only [↓reduceIte, go_sem, t4, t16, t17, t18, hcell]) | (refine arr_intro fun _ => ?_) | (refine later_intro ⟨keeps_nil, ?_⟩) | (refine later_intro ⟨keeps_refl, ?_⟩) | (with_reducible refine keeps_go ?_ ?_; focus (first | (simp [keeps_cons, keeps_none, objs_app, objs_app0]; done) | (simp only [keeps_cons, keeps_none, objs_app0, objs_app, and_true]; first | rfl | exact ⟨rfl, rfl⟩ | exact ⟨rfl, rfl, rfl⟩))) | (with_reducible refine (And.intro (a := keeps _ _ _) ?_ ?_); focus (first | (simp [keeps_cons, keeps_none, objs_app, objs_app0]; done) | (simp only [keeps_cons, keeps_none, objs_app0, objs_app, and_true]; first | rfl | exact ⟨rfl, rfl⟩ | exact ⟨rfl, rfl, rfl⟩))) | (refine both_ways ?_ ?_) | (rw [wrap_i64 (by omega) (by omega)]) | (refine guardV_split (fun h => ?_) (fun h => ?_) <;> (try rw [h]) <;> (try simp at h) <;> (try (exfalso; omega))) | (refine numbersB_c hi1 ?_) | (refine textsB_c ?_) | (refine numbersB_c hi2 ?_) | (refine append_text E51 Try.underlying9 hc2 (by simp only [List.length_append]; omega) (by simp only [maxL, List.length_append]; omega) ?_) | (refine append_text E51 Try.underlying9 (by simp only [List.length_append]; exact canApp_grow hc2) (by simp only [List.length_append]; omega) (by simp only [maxL, List.length_append]; omega) ?_) | (refine append_text E51 Try.underlying9 (by simp only [List.length_append]; exact canApp_grow (canApp_grow hc2)) (by simp only [List.length_append]; omega) (by simp only [maxL, List.length_append]; omega) ?_))
        refine later_intro ⟨i + 1, by omega, _, _, by omega, hgr2.grow.grow.grow, ?_, ?_, ?_, ?_, ?_⟩ <;> (try simp only [go_sem, t4, t16, t17, t18]) <;> (try rfl)
        · rw [e]; simp only [leafG, List.length_append]; omega
        · rw [e]; simp only [leafG, List.append_assoc]
      · have hb : i = l.length := by simp at hb; omega
        have h4 := hN i
        rw [hb, List.take_length] at t4 h4
        have em : (l.map (·.x)).flatMap leafG = l.flatMap fun y => leafG y.x := by simp [List.flatMap_map]
        rw [em] at hK
        repeat' (first | (simp -dsimp only [↓reduceIte, go_sem, t4, t16, t17, t18, u8s_length]) | (refine arr_intro fun _ => ?_) | (refine later_intro ⟨keeps_nil, ?_⟩) | (refine later_intro ⟨keeps_refl, ?_⟩) | (with_reducible refine keeps_go ?_ ?_; focus (first | (simp [keeps_cons, keeps_none, objs_app, objs_app0]; done) | (simp only [keeps_cons, keeps_none, objs_app0, objs_app, and_true]; first | rfl | exact ⟨rfl, rfl⟩ | exact ⟨rfl, rfl, rfl⟩))) | (with_reducible refine (And.intro (a := keeps _ _ _) ?_ ?_); focus (first | (simp [keeps_cons, keeps_none, objs_app, objs_app0]; done) | (simp only [keeps_cons, keeps_none, objs_app0, objs_app, and_true]; first | rfl | exact ⟨rfl, rfl⟩ | exact ⟨rfl, rfl, rfl⟩))) | (refine both_ways ?_ ?_) | (rw [wrap_i64 (by omega) (by omega)]) | (refine guardV_split (fun h => ?_) (fun h => ?_) <;> (try rw [h]) <;> (try simp at h) <;> (try (exfalso; omega))))
        · skip
          rw [if_pos (by omega)] at hK; exact ⟨hgr.x, rfl, hK⟩
        · rw [if_neg (by omega)] at hK; exact ⟨hgr.x, rfl, hK⟩
end Go.Aff.L21

namespace Go.Aff.L21
open Go.Proofs Go.Aff Go.Aff.L01 Classical
set_option maxRecDepth 20000
attribute [local go_sem] push_app app_app length_app cellAt_app cellAt_app0 set_app set_app0 objs_app objs_app0 List.cons_append List.nil_append List.length_cons List.length_nil List.getElem?_cons_zero List.getElem?_cons_succ List.set_cons_zero List.set_cons_succ
attribute [-go_sem] cellAt_new
attribute [local go_sem] Try.underlying22 fits29 fits44 fits46 p46_0 p46_1 p46_2 p46_3 p46_4 p46_5 Try.underlying84
attribute [local go_sem] fits3
attribute [local go_sem ↓] blockQ_exit2
attribute [local go_sem] List.length_map
attribute [-simp] List.length_flatMap
attribute [local go_sem] zt46 zero46 agg_leaf known_leaf

def Light (l : List Leaf) : Prop := l.length ≤ 60 ∧ ∀ x ∈ l, x.blocks.length ≤ 40 ∧ x.names.length ≤ 80 ∧ x.nodes.length ≤ 80
theorem lay_c {l : List TLeaf} {tk : Tk} {σ : AST} {K : AV → AST → Prop} (hT : Table (l.map (·.x))) (hL : Light (l.map (·.x))) (hK : K (.str ((l.map (·.x)).flatMap leafS)) σ) : TCalls Try.prog 43 [.slice tk (l.map leafV)] σ K := by
  refine TCalls.drop ?_
  have h32 := table_len hT
  have hR : ∀ y ∈ l, y.x.Right := fun y hy => by
    obtain ⟨i, hi⟩ := List.mem_iff_getElem?.1 hy
    exact (hT i y.x (tableAt hi)).1
  have hLL : ∀ y ∈ l, y.x.blocks.length ≤ 40 ∧ y.x.names.length ≤ 80 ∧ y.x.nodes.length ≤ 80 := fun y hy => hL.2 y.x (List.mem_map.2 ⟨y, hy, rfl⟩)
  have hS : ∀ y ∈ l, leafS y.x = leafG y.x := fun y hy => by
    have h1 := hLL y hy
    have h2 := (hR y hy).ints.2.2.2
    have a1 : numsB y.x.blocks = laidAll numS y.x.blocks := by unfold numsB; rw [if_neg (by omega)]
    have a2 : numsB y.x.nodes = laidAll numS y.x.nodes := by unfold numsB; rw [if_neg (by omega)]
    have a3 : textsB y.x.names = laidAll textS y.x.names := by
      unfold textsB; rw [if_neg]
      rintro (h | ⟨s, hs, h⟩)
      · omega
      · have := h2 s hs; omega
    rw [leafS, leafG, a1, a2, a3]
  have hN : ∀ i, ((l.take i).flatMap fun y => leafS y.x).length ≤ l.length * 40000 := fun i => flatN fun y hy => by rw [hS y hy]; exact leafG_len (hR y hy)
  rw [List.length_map] at h32
  refine tcalls_walk Try.f43 _ [.tmp 2] Try.func43 rfl rfl rfl mixed (Nat.le_of_ble_eq_true rfl) rfl fun hlen => ?_
  simp -dsimp only [↓reduceIte, go_sem]
  refine awp_rounds (fun (i : Nat) τ s => Ext σ s ∧ i ≤ l.length ∧ τ 0 = .slice tk (l.map leafV) ∧ τ 3 = .str ((l.take i).flatMap fun y => leafS y.x) ∧ τ 4 = .int .i64 i) (fun i => l.length - i) 0 ?_ ?_
  · refine ⟨Ext.refl _, by omega, ?_, ?_, ?_⟩ <;> (try simp only [go_sem]) <;> rfl
  · rintro i τ s ⟨hx, hi, t0, t3, t4⟩
    simp -dsimp only [↓reduceIte, go_sem, t0, t3, t4]
    refine arr_intro fun _ => ?_
    simp -dsimp only [↓reduceIte, go_sem, t0, t3, t4]
    refine boolW_split (fun hb => ?_) (fun hb => ?_)
    · have hb : i < l.length := by simp at hb; omega
      obtain ⟨y, hy⟩ := get_lt hb
      have hm := List.mem_of_getElem? hy
      obtain ⟨hi1, hi2, hi3, hi4⟩ := (hR y hm).ints
      obtain ⟨hb1, hb2, hb3⟩ := hLL y hm
      have hNi := hN i
      have e : (l.take (i + 1)).flatMap (fun y => leafS y.x) = (l.take i).flatMap (fun y => leafS y.x) ++ leafS y.x := flat_take hy
      have hG := leafG_len (hR y hm)
      rw [← hS y hm] at hG
      simp only [leafS, laidAll, part_all, List.length_append, List.length_cons, List.length_nil] at hG
      repeat' (first | (simp -dsimp only [↓reduceIte, go_sem, t0, t3, t4, leafV]) | (refine arr_intro fun _ => ?_) | (refine later_intro ⟨keeps_nil, ?_⟩) | (refine later_intro ⟨keeps_refl, ?_⟩) | (with_reducible refine keeps_go ?_ ?_; focus (first | (simp [keeps_cons, keeps_none, objs_app, objs_app0]; done) | (simp only [keeps_cons, keeps_none, objs_app0, objs_app, and_true]; first | rfl | exact ⟨rfl, rfl⟩ | exact ⟨rfl, rfl, rfl⟩))) | (with_reducible refine (And.intro (a := keeps _ _ _) ?_ ?_); focus (first | (simp [keeps_cons, keeps_none, objs_app, objs_app0]; done) | (simp only [keeps_cons, keeps_none, objs_app0, objs_app, and_true]; first | rfl | exact ⟨rfl, rfl⟩ | exact ⟨rfl, rfl, rfl⟩))) | (refine both_ways ?_ ?_) | (rw [wrap_i64 (by omega) (by omega)]) | (refine guardV_split (fun h => ?_) (fun h => ?_) <;> (try rw [h]) <;> (try simp at h) <;> (try (exfalso; omega))) | (refine nth_get hy ?_) | (with_reducible refine awp_drawS (id := 6) [0, 1, 2, 3, 4, 5, 6, 7, 11, 12, 16, 17, 21, 22, 8, 9, 10, 13, 14, 15, 18, 19, 20, 23, 24, 25, 26] (by kernel_rfl) ?_) | (refine build_slice E44 rfl (by decide) (by intro v hv; simp at hv; rcases hv with rfl | rfl | rfl <;> exact ⟨by simp only [go_sem], rfl⟩) ?_) | (refine Ints_c (l := [y.x.num, y.x.kind, y.x.size]) hi3 (by simp) ?_) | (refine Ints_c hi1 (by omega) ?_) | (refine Ints_c hi2 (by omega) ?_) | (refine Texts_c (fun s hs => Nat.le_trans (hi4 s hs) (by omega)) (by omega) ?_) | (refine side_later (by simp only [maxL, laidAll, part_all, List.length_append, List.length_cons, List.length_nil]; omega) ?_))
      refine later_intro ⟨i + 1, by omega, hx.trans (Ext.app _ _), by omega, ?_, ?_, ?_⟩ <;> (try simp only [go_sem, t0, t3, t4]) <;> (try rfl)
      rw [e]
      simp [leafS, laidAll, part_all]
    · have hb : i = l.length := by simp at hb; omega
      rw [hb, List.take_length] at t3
      have em : (l.map (·.x)).flatMap leafS = l.flatMap fun y => leafS y.x := by simp [List.flatMap_map]
      rw [em] at hK
      repeat' (first | (simp -dsimp only [↓reduceIte, go_sem, t0, t3, t4]) | (refine arr_intro fun _ => ?_) | (refine later_intro ⟨keeps_nil, ?_⟩) | (refine later_intro ⟨keeps_refl, ?_⟩) | (with_reducible refine keeps_go ?_ ?_; focus (first | (simp [keeps_cons, keeps_none, objs_app, objs_app0]; done) | (simp only [keeps_cons, keeps_none, objs_app0, objs_app, and_true]; first | rfl | exact ⟨rfl, rfl⟩ | exact ⟨rfl, rfl, rfl⟩))) | (with_reducible refine (And.intro (a := keeps _ _ _) ?_ ?_); focus (first | (simp [keeps_cons, keeps_none, objs_app, objs_app0]; done) | (simp only [keeps_cons, keeps_none, objs_app0, objs_app, and_true]; first | rfl | exact ⟨rfl, rfl⟩ | exact ⟨rfl, rfl, rfl⟩))) | (refine both_ways ?_ ?_) | (rw [wrap_i64 (by omega) (by omega)]) | (refine guardV_split (fun h => ?_) (fun h => ?_) <;> (try rw [h]) <;> (try simp at h) <;> (try (exfalso; omega))))
      exact ⟨hx, rfl, hK⟩
end Go.Aff.L21

namespace Go.Aff

variable {P : Program} {σ σ' : AST} {K : AV → AST → Prop} {KV : AV → Prop}

section
variable {dst : Option Nat} {ty : TypeId} {pos : String} {after : Array Edge} {gd : Option (Nat × Bool)} {ρ : Operand → AV}
theorem op_copy {x y : Operand} {ts : Array TypeId} : opW P ρ ⟨dst, .call ⟨.builtin .copy, #[x, y], ts⟩, ty, pos, after, gd⟩ σ K = copyW P ts (ρ x) (ρ y) σ K := nr rfl
end
def convA (o : Option AV) (K : AV → Prop) : Prop := match o with
  | some (.dig d) => K (.str d.l)
  | some (.agg ps) => ∃ l, unU8 (ps.take 32) = some l ∧ 32 ≤ ps.length ∧ K (.str l)
  | _ => False
theorem convA_dig {d : Dig} : convA (some (.dig d)) KV = KV (.str d.l) := nr rfl
attribute [go_sem ↓] op_copy
attribute [go_sem] convA_dig
theorem bool_end {b c : Bool} (hK : K (.bool c) σ) (h : b = c) : K (.bool b) σ := h ▸ hK
theorem bool_endD {b : Bool} {Q : Prop} {d : Decidable Q} (hK : K (.bool (@decide Q d)) σ) (h : b = true ↔ Q) : K (.bool b) σ := by
  have : b = @decide Q d := by rw [Bool.eq_iff_iff, decide_eq_true_eq]; exact h
  exact this ▸ hK
theorem bool_endDX {s : AST} {b : Bool} {Q : Prop} {d : Decidable Q} (hx : Ext σ s) (hK : K (.bool (@decide Q d)) σ) (h : b = true ↔ Q) : Ext σ s ∧ (AV.bool b).noRef = true ∧ K (AV.bool b).strip σ := ⟨hx, rfl, by simpa [AV.strip] using bool_endD hK h⟩
theorem get_pred {α : Type} {l : List α} {i : Nat} {y : α} (h : l[i]? = some y) (h0 : 0 < i) : l[i - 1]? = some (l[i - 1]'(by have := (List.getElem?_eq_some_iff.1 h).1; omega)) := List.getElem?_eq_getElem _
theorem nth_pred {α : Type} {l : List α} {i : Nat} {y : α} {F : α → Prop} (h : l[i]? = some y) (h0 : 0 < i) (hF : F (l[i - 1]'(by have := (List.getElem?_eq_some_iff.1 h).1; omega))) : nthW l ((i : Int) - 1) (@LamA _ ⟨F⟩) := by
  rw [show (i : Int) - 1 = ((i - 1 : Nat) : Int) by omega]; exact nth_get (get_pred h h0) hF
theorem keeps_cons {k : Nat} {ks : List Nat} : keeps (k :: ks) σ σ' = (σ'.objs[k]? = σ.objs[k]? ∧ keeps ks σ σ') := by simp [keeps]
theorem keeps_go {ks : List Nat} {R : Prop} (h : keeps ks σ σ') (hR : R) : @Later ⟨keeps ks σ σ' ∧ R⟩ := ⟨h, hR⟩
theorem reads_pick {ρ : Operand → AV} {a b c : Operand} : reads ρ (.pick a b c) = [] := rfl
theorem reads_makeFunc {ρ : Operand → AV} {f : Fn} {a b : Array Operand} : reads ρ (.makeFunc f a b) = [] := rfl
theorem reads_makeInterface {ρ : Operand → AV} {t : TypeId} {x : Operand} : reads ρ (.makeInterface t x) = [] := rfl
attribute [go_sem] reads_pick reads_makeFunc reads_makeInterface
theorem get_of_lt {α : Type} {l : List α} {i : Nat} (h : i < l.length) : ∃ y, l[i]? = some y ∧ y ∈ l := ⟨l[i], List.getElem?_eq_getElem h, List.getElem_mem h⟩
end Go.Aff

namespace Go.Aff.L10
open Go.Proofs Go.Aff Go.Aff.L01 Classical
set_option maxRecDepth 20000
theorem dig_ext {a b : Dig} : a.l = b.l ↔ a = b := by
  cases a; cases b; simp
theorem eq_int3 {n : Nat} {a b : Int} : eqA Try.prog (n + 1) 3 (.int .i64 a) (.int .i64 b) = some (a == b) := by
  simp [eqA, Try.underlying3]
theorem eq_str9 {n : Nat} {a b : List UInt8} : eqA Try.prog (n + 1) 9 (.str a) (.str b) = some (a == b) := by
  simp [eqA, Try.underlying9]
theorem eq_dig23 {n : Nat} {a b : Dig} : eqA Try.prog (n + 4) 65 (.dig a) (.dig b) = some (a.l == b.l) := by
  have h : digT Try.prog 65 = true := by kernel_rfl
  obtain ⟨_, e, h2, h3, h4⟩ := digT_iff h
  simp [eqA, h2, h3, h4]
theorem eqAs_cons {n i : Nat} {t : TypeId} {f : Field} {fs : List Field} {x y : AV} {xs ys ax ay : List AV} (h : (f.name ≠ "_" ∧ f.offset = AV.sizes (ax.take i) ∧ f.offset = AV.sizes (ay.take i) ∧ aggT Try.prog f.type = some x.isAgg ∧ Try.prog.cellsOf f.type = x.size ∧ aggT Try.prog f.type = some y.isAgg ∧ Try.prog.cellsOf f.type = y.size)) {b : Bool} (hb : eqA Try.prog n f.type x y = some b) :
    eqAs Try.prog (n + 1) t i (f :: fs) (x :: xs) (y :: ys) ax ay = if b = true then eqAs Try.prog n t (i + 1) fs xs ys ax ay else some false := by
  simp only [eqAs]
  rw [if_pos h, hb]
  cases b <;> rfl
theorem eq_sub {a b : Sub} : eqA Try.prog 40 67 (.agg (subPs a)) (.agg (subPs b)) = some (decide (a = b)) := by
  have hs : Try.prog.stoodInHeld 67 = false := by kernel_rfl
  simp only [eqA, Try.underlying67, hs, if_true]
  unfold subPs
  rw [eqAs_cons ⟨by decide, by simp [AV.sizes, AV.size], by simp [AV.sizes, AV.size], by kernel_rfl, by simp [AV.size]; kernel_rfl, by kernel_rfl, by simp [AV.size]; kernel_rfl⟩ eq_int3]
  refine (Classical.em (a.num = b.num)).elim (fun h0 => ?_) (fun h0 => by rw [if_neg (by simpa [dig_ext] using h0), decide_eq_false (fun e => h0 (congrArg Sub.num e))])
  rw [if_pos (by simpa [dig_ext] using h0)]
  rw [eqAs_cons ⟨by decide, by simp [AV.sizes, AV.size], by simp [AV.sizes, AV.size], by kernel_rfl, by simp [AV.size]; kernel_rfl, by kernel_rfl, by simp [AV.size]; kernel_rfl⟩ eq_int3]
  refine (Classical.em (a.kind = b.kind)).elim (fun h1 => ?_) (fun h1 => by rw [if_neg (by simpa [dig_ext] using h1), decide_eq_false (fun e => h1 (congrArg Sub.kind e))])
  rw [if_pos (by simpa [dig_ext] using h1)]
  rw [eqAs_cons ⟨by decide, by simp [AV.sizes, AV.size], by simp [AV.sizes, AV.size], by kernel_rfl, by simp [AV.size]; kernel_rfl, by kernel_rfl, by simp [AV.size]; kernel_rfl⟩ eq_int3]
  refine (Classical.em (a.target = b.target)).elim (fun h2 => ?_) (fun h2 => by rw [if_neg (by simpa [dig_ext] using h2), decide_eq_false (fun e => h2 (congrArg Sub.target e))])
  rw [if_pos (by simpa [dig_ext] using h2)]
  rw [eqAs_cons ⟨by decide, by simp [AV.sizes, AV.size], by simp [AV.sizes, AV.size], by kernel_rfl, by simp [AV.size]; kernel_rfl, by kernel_rfl, by simp [AV.size]; kernel_rfl⟩ eq_str9]
  refine (Classical.em (a.value = b.value)).elim (fun h3 => ?_) (fun h3 => by rw [if_neg (by simpa [dig_ext] using h3), decide_eq_false (fun e => h3 (congrArg Sub.value e))])
  rw [if_pos (by simpa [dig_ext] using h3)]
  rw [eqAs_cons ⟨by decide, by simp [AV.sizes, AV.size], by simp [AV.sizes, AV.size], by kernel_rfl, by simp [AV.size]; kernel_rfl, by kernel_rfl, by simp [AV.size]; kernel_rfl⟩ eq_dig23]
  refine (Classical.em (a.asked = b.asked)).elim (fun h4 => ?_) (fun h4 => by rw [if_neg (by simpa [dig_ext] using h4), decide_eq_false (fun e => h4 (congrArg Sub.asked e))])
  rw [if_pos (by simpa [dig_ext] using h4)]
  rw [eqAs_cons ⟨by decide, by simp [AV.sizes, AV.size], by simp [AV.sizes, AV.size], by kernel_rfl, by simp [AV.size]; kernel_rfl, by kernel_rfl, by simp [AV.size]; kernel_rfl⟩ eq_dig23]
  refine (Classical.em (a.data = b.data)).elim (fun h5 => ?_) (fun h5 => by rw [if_neg (by simpa [dig_ext] using h5), decide_eq_false (fun e => h5 (congrArg Sub.data e))])
  rw [if_pos (by simpa [dig_ext] using h5)]
  rw [decide_eq_true (by cases a; cases b; simp_all)]; simp only [eqAs]
theorem bin_sub_eql {a b : Sub} {KV : AV → Prop} : binW Try.prog .eql 67 (.agg (subPs a)) (.agg (subPs b)) KV = KV (.bool (decide (a = b))) := by
  have h : Try.prog.eqGuardType Try.prog.depth 67 = false := by kernel_rfl
  simp [binW, eqW, eq_sub, h]
theorem eq_pend {a b : Pend} : eqA Try.prog 40 163 (.agg (pendPs a)) (.agg (pendPs b)) = some (decide (a = b)) := by
  have hs : Try.prog.stoodInHeld 163 = false := by kernel_rfl
  simp only [eqA, Try.underlying163, hs, if_true]
  unfold pendPs
  rw [eqAs_cons ⟨by decide, by simp [AV.sizes, AV.size], by simp [AV.sizes, AV.size], by kernel_rfl, by simp [AV.size]; kernel_rfl, by kernel_rfl, by simp [AV.size]; kernel_rfl⟩ eq_int3]
  refine (Classical.em (a.client = b.client)).elim (fun h0 => ?_) (fun h0 => by rw [if_neg (by simpa [dig_ext] using h0), decide_eq_false (fun e => h0 (congrArg Pend.client e))])
  rw [if_pos (by simpa [dig_ext] using h0)]
  rw [eqAs_cons ⟨by decide, by simp [AV.sizes, AV.size], by simp [AV.sizes, AV.size], by kernel_rfl, by simp [AV.size]; kernel_rfl, by kernel_rfl, by simp [AV.size]; kernel_rfl⟩ eq_int3]
  refine (Classical.em (a.num = b.num)).elim (fun h1 => ?_) (fun h1 => by rw [if_neg (by simpa [dig_ext] using h1), decide_eq_false (fun e => h1 (congrArg Pend.num e))])
  rw [if_pos (by simpa [dig_ext] using h1)]
  rw [eqAs_cons ⟨by decide, by simp [AV.sizes, AV.size], by simp [AV.sizes, AV.size], by kernel_rfl, by simp [AV.size]; kernel_rfl, by kernel_rfl, by simp [AV.size]; kernel_rfl⟩ eq_int3]
  refine (Classical.em (a.kind = b.kind)).elim (fun h2 => ?_) (fun h2 => by rw [if_neg (by simpa [dig_ext] using h2), decide_eq_false (fun e => h2 (congrArg Pend.kind e))])
  rw [if_pos (by simpa [dig_ext] using h2)]
  rw [eqAs_cons ⟨by decide, by simp [AV.sizes, AV.size], by simp [AV.sizes, AV.size], by kernel_rfl, by simp [AV.size]; kernel_rfl, by kernel_rfl, by simp [AV.size]; kernel_rfl⟩ eq_int3]
  refine (Classical.em (a.target = b.target)).elim (fun h3 => ?_) (fun h3 => by rw [if_neg (by simpa [dig_ext] using h3), decide_eq_false (fun e => h3 (congrArg Pend.target e))])
  rw [if_pos (by simpa [dig_ext] using h3)]
  rw [eqAs_cons ⟨by decide, by simp [AV.sizes, AV.size], by simp [AV.sizes, AV.size], by kernel_rfl, by simp [AV.size]; kernel_rfl, by kernel_rfl, by simp [AV.size]; kernel_rfl⟩ eq_dig23]
  refine (Classical.em (a.asked = b.asked)).elim (fun h4 => ?_) (fun h4 => by rw [if_neg (by simpa [dig_ext] using h4), decide_eq_false (fun e => h4 (congrArg Pend.asked e))])
  rw [if_pos (by simpa [dig_ext] using h4)]
  rw [eqAs_cons ⟨by decide, by simp [AV.sizes, AV.size], by simp [AV.sizes, AV.size], by kernel_rfl, by simp [AV.size]; kernel_rfl, by kernel_rfl, by simp [AV.size]; kernel_rfl⟩ eq_dig23]
  refine (Classical.em (a.proof = b.proof)).elim (fun h5 => ?_) (fun h5 => by rw [if_neg (by simpa [dig_ext] using h5), decide_eq_false (fun e => h5 (congrArg Pend.proof e))])
  rw [if_pos (by simpa [dig_ext] using h5)]
  rw [decide_eq_true (by cases a; cases b; simp_all)]; simp only [eqAs]
theorem bin_pend_neq {a b : Pend} {KV : AV → Prop} : binW Try.prog .neq 163 (.agg (pendPs a)) (.agg (pendPs b)) KV = KV (.bool !(decide (a = b))) := by
  have h : Try.prog.eqGuardType Try.prog.depth 163 = false := by kernel_rfl
  simp [binW, eqW, eq_pend, h]
theorem eq_blob {a b : Blob} : eqA Try.prog 40 72 (.agg (blobPs a)) (.agg (blobPs b)) = some (decide (a = b)) := by
  have hs : Try.prog.stoodInHeld 72 = false := by kernel_rfl
  simp only [eqA, Try.underlying72, hs, if_true]
  unfold blobPs
  rw [eqAs_cons ⟨by decide, by simp [AV.sizes, AV.size], by simp [AV.sizes, AV.size], by kernel_rfl, by simp [AV.size]; kernel_rfl, by kernel_rfl, by simp [AV.size]; kernel_rfl⟩ eq_int3]
  refine (Classical.em (a.owner = b.owner)).elim (fun h0 => ?_) (fun h0 => by rw [if_neg (by simpa [dig_ext] using h0), decide_eq_false (fun e => h0 (congrArg Blob.owner e))])
  rw [if_pos (by simpa [dig_ext] using h0)]
  rw [eqAs_cons ⟨by decide, by simp [AV.sizes, AV.size], by simp [AV.sizes, AV.size], by kernel_rfl, by simp [AV.size]; kernel_rfl, by kernel_rfl, by simp [AV.size]; kernel_rfl⟩ eq_int3]
  refine (Classical.em (a.num = b.num)).elim (fun h1 => ?_) (fun h1 => by rw [if_neg (by simpa [dig_ext] using h1), decide_eq_false (fun e => h1 (congrArg Blob.num e))])
  rw [if_pos (by simpa [dig_ext] using h1)]
  rw [eqAs_cons ⟨by decide, by simp [AV.sizes, AV.size], by simp [AV.sizes, AV.size], by kernel_rfl, by simp [AV.size]; kernel_rfl, by kernel_rfl, by simp [AV.size]; kernel_rfl⟩ eq_str9]
  refine (Classical.em (a.cipher = b.cipher)).elim (fun h2 => ?_) (fun h2 => by rw [if_neg (by simpa [dig_ext] using h2), decide_eq_false (fun e => h2 (congrArg Blob.cipher e))])
  rw [if_pos (by simpa [dig_ext] using h2)]
  rw [eqAs_cons ⟨by decide, by simp [AV.sizes, AV.size], by simp [AV.sizes, AV.size], by kernel_rfl, by simp [AV.size]; kernel_rfl, by kernel_rfl, by simp [AV.size]; kernel_rfl⟩ eq_dig23]
  refine (Classical.em (a.tag = b.tag)).elim (fun h3 => ?_) (fun h3 => by rw [if_neg (by simpa [dig_ext] using h3), decide_eq_false (fun e => h3 (congrArg Blob.tag e))])
  rw [if_pos (by simpa [dig_ext] using h3)]
  rw [decide_eq_true (by cases a; cases b; simp_all)]; simp only [eqAs]
theorem bin_blob_eql {a b : Blob} {KV : AV → Prop} : binW Try.prog .eql 72 (.agg (blobPs a)) (.agg (blobPs b)) KV = KV (.bool (decide (a = b))) := by
  have h : Try.prog.eqGuardType Try.prog.depth 72 = false := by kernel_rfl
  simp [binW, eqW, eq_blob, h]
theorem fits5 {v : AV} : fits Try.prog 5 v = (v.isAgg = false ∧ v.size = 1) := fits_leaf (by kernel_rfl) (by kernel_rfl)
theorem fits26 {v : AV} : fits Try.prog 68 v = (v.isAgg = false ∧ v.size = 1) := fits_leaf (by kernel_rfl) (by kernel_rfl)
theorem fits31 {v : AV} : fits Try.prog 50 v = (v.isAgg = false ∧ v.size = 1) := fits_leaf (by kernel_rfl) (by kernel_rfl)
theorem fits23 {v : AV} : fits Try.prog 65 v = (v.isAgg = true ∧ v.size = 32) := fits_agg (by kernel_rfl) (by kernel_rfl)
theorem zero3 : zeroA Try.prog 12 3 = .int .i64 0 := by kernel_rfl
theorem zt3 : ZeroOf Try.prog 3 (.int .i64 0) = True := eq_true ⟨_, _, rfl, rfl, rfl, rfl, rfl⟩
theorem zero23 : zeroA Try.prog 12 65 = .dig dig0 := by kernel_rfl
theorem zt23 : ZeroOf Try.prog 65 (.dig dig0) = True := eq_true ⟨_, _, rfl, rfl, rfl, rfl, rfl⟩
theorem Sub.iff {a b : Sub} : a = b ↔ a.num = b.num ∧ a.kind = b.kind ∧ a.target = b.target ∧ a.value = b.value ∧ a.asked = b.asked ∧ a.data = b.data := by cases a; cases b; simp
theorem Pend.iff {a b : Pend} : a = b ↔ a.client = b.client ∧ a.num = b.num ∧ a.kind = b.kind ∧ a.target = b.target ∧ a.asked = b.asked ∧ a.proof = b.proof := by cases a; cases b; simp
theorem Rep.iff {a b : Rep} : a = b ↔ a.num = b.num ∧ a.last = b.last ∧ a.view = b.view ∧ a.commit = b.commit ∧ a.pending = b.pending ∧ a.vnum = b.vnum ∧ a.value = b.value ∧ a.data = b.data ∧ a.seen = b.seen ∧ a.seenTag = b.seenTag := by cases a; cases b; simp
theorem Blob.iff {a b : Blob} : a = b ↔ a.owner = b.owner ∧ a.num = b.num ∧ a.cipher = b.cipher ∧ a.tag = b.tag := by cases a; cases b; simp
theorem Msg.iff {a b : Msg} : a = b ↔ a.kind = b.kind ∧ a.client = b.client ∧ a.sub = b.sub ∧ a.rep = b.rep ∧ a.view = b.view ∧ a.by_ = b.by_ ∧ a.tag = b.tag ∧ a.own = b.own ∧ a.blob = b.blob ∧ a.nums = b.nums := by cases a; cases b; simp
theorem bin_dig23_eql {KV : AV → Prop} {a b : Dig} : binW Try.prog .eql 65 (.dig a) (.dig b) KV = KV (.bool (a.l == b.l)) := bin_dig_eql (by kernel_rfl)
theorem bin_dig23_neq {KV : AV → Prop} {a b : Dig} : binW Try.prog .neq 65 (.dig a) (.dig b) KV = KV (.bool !(a.l == b.l)) := bin_dig_neq (by kernel_rfl)
end Go.Aff.L10

