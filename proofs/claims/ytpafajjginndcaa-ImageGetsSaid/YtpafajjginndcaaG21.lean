import Derived.Test.YtpafajjginndcaaG20
import Derived.Test.YtpafajjginndcaaG18

/- Layer 21, walked: tables. -/
namespace Go.Aff.L21
open Go.Proofs Go.Aff Go.Aff.L01 Classical
set_option linter.unusedVariables false
set_option linter.unusedSimpArgs false
attribute [local go_sem] push_app app_app length_app cellAt_app cellAt_app0 set_app set_app0 objs_app objs_app0 List.cons_append List.nil_append List.length_cons List.length_nil List.getElem?_cons_zero List.getElem?_cons_succ List.set_cons_zero List.set_cons_succ
attribute [-go_sem] cellAt_new
attribute [local go_sem] Try.underlying3 fits4 Try.underlying4 fits5 Try.underlying5 Try.underlying9 fits22 Try.underlying22 fits23 Try.underlying23 fits29 Try.underlying29 fits43 Try.underlying43 fits44 Try.underlying44 fits46 p46_0 p46_1 p46_2 p46_3 p46_4 p46_5 Try.underlying46 fits64 p64_0 p64_1 Try.underlying64
attribute [local go_sem] fits3 fits9
attribute [local go_sem ↓] blockQ_exit2

theorem size_leaf {y : TLeaf} : (leafV y).size = 6 := by simp [leafV, AV.size, AV.sizes]
theorem agg_leaf {y : TLeaf} : (leafV y).isAgg = true := rfl
theorem tableAt {l : List TLeaf} {i : Nat} {y : TLeaf} (h : l[i]? = some y) : (l.map (·.x))[i]? = some y.x := by simp [h]
theorem get_pred {α : Type} {l : List α} {i : Nat} {y : α} (h : l[i]? = some y) (h0 : 0 < i) : l[i - 1]? = some (l[i - 1]'(by have := (List.getElem?_eq_some_iff.1 h).1; omega)) := List.getElem?_eq_getElem _
theorem nth_pred {α : Type} {l : List α} {i : Nat} {y : α} {F : α → Prop} (h : l[i]? = some y) (h0 : 0 < i) (hF : F (l[i - 1]'(by have := (List.getElem?_eq_some_iff.1 h).1; omega))) : nthW l ((i : Int) - 1) (@LamA _ ⟨F⟩) := by
  rw [show (i : Int) - 1 = ((i - 1 : Nat) : Int) by omega]; exact nth_get (get_pred h h0) hF
def TableTo (l : List TLeaf) (i : Nat) : Prop := ∀ (j : Nat) y, j < i → l[j]? = some y → y.x.Right ∧ ∀ z, 0 < j → l[j - 1]? = some z → z.x.num < y.x.num
theorem tableTo_all {l : List TLeaf} : TableTo l l.length ↔ Table (l.map (·.x)) := by
  constructor
  · intro h i x hx
    simp only [List.getElem?_map, Option.map_eq_some_iff] at hx
    obtain ⟨y, hy, rfl⟩ := hx
    refine ⟨(h i y (List.getElem?_eq_some_iff.1 hy).1 hy).1, fun z h0 hz => ?_⟩
    simp only [List.getElem?_map, Option.map_eq_some_iff] at hz
    obtain ⟨z, hz, rfl⟩ := hz
    exact (h i y (List.getElem?_eq_some_iff.1 hy).1 hy).2 z h0 hz
  · intro h j y _ hy
    exact ⟨(h j y.x (tableAt hy)).1, fun z h0 hz => (h j y.x (tableAt hy)).2 z.x h0 (tableAt hz)⟩
theorem tableTo_succ {l : List TLeaf} {i : Nat} {y : TLeaf} (hi : TableTo l i) (hy : l[i]? = some y) (h1 : y.x.Right) (h2 : ∀ z, 0 < i → l[i - 1]? = some z → z.x.num < y.x.num) : TableTo l (i + 1) := by
  intro j z hj hz
  by_cases h : j < i
  · exact hi j z h hz
  · obtain rfl : j = i := by omega
    rw [hy] at hz; cases hz; exact ⟨h1, h2⟩

theorem zt46 : ZeroOf Try.prog 46 (.agg [.int .i64 0, .int .i64 0, .int .i64 0, .slice .full [], .slice .full [], .slice .full []]) = True := by simp [zeroOf46]
theorem shape_leafV {y : TLeaf} : (leafV y).shape = .node [.leaf, .leaf, .leaf, .leaf, .leaf, .leaf] := by simp [leafV, AV.shape, AV.shapes]
theorem known_leaf {y : TLeaf} : (leafV y).known = true := rfl
attribute [local go_sem] zt46 zero46 size_leaf agg_leaf shape_leafV known_leaf
theorem table_c {l : List TLeaf} {tk : Tk} {σ : AST} {K : AV → AST → Prop} (hK : K (.bool (decide (Table (l.map (·.x))))) σ) : TCalls Try.prog 22 [.slice tk (l.map leafV)] σ K := by
  refine TCalls.drop ?_
  refine tcalls_walk Try.f22 _ [.tmp 2] Try.func22 rfl rfl rfl mixed (Nat.le_of_ble_eq_true rfl) rfl fun hlen => ?_
  have bad : ∀ s, Ext σ s → ¬ Table (l.map (·.x)) → Ext σ s ∧ (AV.bool false).noRef = true ∧ K (AV.bool false).strip σ := fun s hx h => by
    rw [decide_eq_false h] at hK; exact ⟨hx, rfl, hK⟩
  simp -dsimp only [↓reduceIte, go_sem]
  refine arr_intro fun _ => ?_
  have hll : l.length ≤ 9223372036854775807 := by simpa [maxL] using ‹(l.map leafV).length ≤ maxL›
  simp only [List.length_map]
  simp -dsimp only [↓reduceIte, go_sem]
  refine awp_rounds (fun (i : Nat) τ s => Ext σ s ∧ i ≤ l.length ∧ TableTo l i ∧ τ 0 = .slice tk (l.map leafV) ∧ τ 5 = .slice tk (l.map leafV) ∧ τ 6 = .int .i64 l.length ∧ τ 7 = .int .i64 i) (fun i => l.length - i) 0 ?_ ?_
  · refine ⟨Ext.refl _, by omega, fun j y h => by omega, ?_, ?_, ?_, ?_⟩ <;> (try simp only [go_sem]) <;> rfl
  · rintro i τ s ⟨hx, hi, hall, t0, t5, t6, t7⟩
    simp -dsimp only [↓reduceIte, go_sem, t0, t5, t6, t7]
    refine boolW_split (fun hb => ?_) (fun hb => ?_)
    · have hb : i < l.length := by simp at hb; omega
      obtain ⟨y, hy⟩ := get_lt hb
      simp -dsimp only [↓reduceIte, go_sem, t0, t5, t6, t7]
      refine nth_get hy ?_
      repeat' (first | (simp -dsimp only [↓reduceIte, go_sem, t0, t5, t6, t7, leafV]) | (refine arr_intro fun _ => ?_) | (refine later_intro ⟨keeps_nil, ?_⟩) | (refine later_intro ⟨keeps_refl, ?_⟩) | (refine both_ways ?_ ?_) | (rw [wrap_i64 (by omega) (by omega)]) | (refine guardV_split (fun h => ?_) (fun h => ?_) <;> (try rw [h]) <;> (try simp at h) <;> (try (exfalso; omega))) | (refine awp_drawS (id := 4) [0, 1, 2, 3, 4, 5, 6, 7, 8, 9, 10, 11, 12, 13, 14, 15, 16, 17] (by kernel_rfl) ?_) | (refine right_c ?_) | (refine nth_get hy ?_) | (refine nth_pred hy (by omega) ?_))
      · exact bad _ (hx.trans (Ext.app _ _)) fun ht => by have := (tableTo_all.2 ht i y hb hy).2 _ ‹_› (get_pred hy ‹_›); omega
      · refine later_intro ⟨i + 1, by omega, hx.trans (Ext.app _ _), by omega, tableTo_succ hall hy ‹_› (fun z h0 hz => by rw [get_pred hy h0] at hz; cases hz; omega), ?_, ?_, ?_, ?_⟩ <;> (try simp only [go_sem, t0, t5, t6, t7]) <;> rfl
      · refine later_intro ⟨i + 1, by omega, hx.trans (Ext.app _ _), by omega, tableTo_succ hall hy ‹_› (fun z h0 hz => by omega), ?_, ?_, ?_, ?_⟩ <;> (try simp only [go_sem, t0, t5, t6, t7]) <;> rfl
      · exact bad _ (hx.trans (Ext.app _ _)) fun ht => ‹¬ y.x.Right› (tableTo_all.2 ht i y hb hy).1
    · have hb : i = l.length := by simp at hb; omega
      repeat' (first | (simp -dsimp only [↓reduceIte, go_sem, t0, t5, t6, t7]) | (refine arr_intro fun _ => ?_) | (refine later_intro ⟨keeps_nil, ?_⟩) | (refine later_intro ⟨keeps_refl, ?_⟩) | (refine both_ways ?_ ?_) | (rw [wrap_i64 (by omega) (by omega)]) | (refine guardV_split (fun h => ?_) (fun h => ?_) <;> (try rw [h]) <;> (try simp at h) <;> (try (exfalso; omega))))
      rw [hb] at hall
      rw [decide_eq_true (tableTo_all.1 hall)] at hK
      exact ⟨hx, rfl, hK⟩
attribute [local go_sem ↓] blockQ_exit2
theorem Table_c {l : List TLeaf} {tk : Tk} {σ : AST} {K : AV → AST → Prop} (hK : K (.bool (decide (Table (l.map (·.x))))) σ) : TCalls Try.prog 10 [.slice tk (l.map leafV)] σ K := by
  refine tcalls_walk Try.f10 _ [.tmp 2] Try.func10 rfl rfl rfl mixed (Nat.le_of_ble_eq_true rfl) rfl fun hlen => ?_
  have bad : ¬ Table (l.map (·.x)) → K (AV.bool false) σ := fun h => by
    rw [decide_eq_false h] at hK; exact hK
  have hll : l.length ≤ 9223372036854775807 := by simpa [maxL, lenOk] using hlen _ (List.mem_cons_self ..)
  simp -dsimp only [↓reduceIte, go_sem]
  refine awp_rounds (fun (i : Nat) τ s => s = σ ∧ i ≤ l.length ∧ TableTo l i ∧ τ 0 = .slice tk (l.map leafV) ∧ τ 3 = .int .i64 i) (fun i => l.length - i) 0 ?_ ?_
  · refine ⟨rfl, by omega, fun j y h => by omega, ?_, ?_⟩ <;> (try simp only [go_sem]) <;> rfl
  · rintro i τ s ⟨rfl, hi, hall, t0, t3⟩
    simp -dsimp only [↓reduceIte, go_sem, t0, t3]
    refine arr_intro fun _ => ?_
    simp only [List.length_map]
    simp -dsimp only [↓reduceIte, go_sem, t0, t3]
    refine boolW_split (fun hb => ?_) (fun hb => ?_)
    · have hb : i < l.length := by simp at hb; omega
      obtain ⟨y, hy⟩ := get_lt hb
      repeat' (first | (simp -dsimp only [↓reduceIte, go_sem, t0, t3, leafV]) | (refine arr_intro fun _ => ?_) | (refine later_intro ⟨keeps_nil, ?_⟩) | (refine later_intro ⟨keeps_refl, ?_⟩) | (refine both_ways ?_ ?_) | (rw [wrap_i64 (by omega) (by omega)]) | (refine guardV_split (fun h => ?_) (fun h => ?_) <;> (try rw [h]) <;> (try simp at h) <;> (try (exfalso; omega))) | (refine awp_drawS (id := 4) [0, 1, 2, 3, 4, 5, 6, 7, 8, 9, 10, 11, 12, 13, 14, 15, 16, 17, 18, 19, 20, 21, 22, 23] (by kernel_rfl) ?_) | (refine Right_c ?_) | (refine nth_get hy ?_) | (refine nth_pred hy (by omega) ?_))
      · exact bad fun ht => by have := (tableTo_all.2 ht i y hb hy).2 _ ‹_› (get_pred hy ‹_›); omega
      · refine later_intro ⟨i + 1, by omega, rfl, by omega, tableTo_succ hall hy ‹_› (fun z h0 hz => by rw [get_pred hy h0] at hz; cases hz; omega), ?_, ?_⟩ <;> (try simp only [go_sem, t0, t3]) <;> rfl
      · refine later_intro ⟨i + 1, by omega, rfl, by omega, tableTo_succ hall hy ‹_› (fun z h0 hz => by omega), ?_, ?_⟩ <;> (try simp only [go_sem, t0, t3]) <;> rfl
      · exact bad fun ht => ‹¬ y.x.Right› (tableTo_all.2 ht i y hb hy).1
    · have hb : i = l.length := by simp at hb; omega
      repeat' (first | (simp -dsimp only [↓reduceIte, go_sem, t0, t3]) | (refine arr_intro fun _ => ?_) | (refine later_intro ⟨keeps_nil, ?_⟩) | (refine later_intro ⟨keeps_refl, ?_⟩) | (refine both_ways ?_ ?_) | (rw [wrap_i64 (by omega) (by omega)]) | (refine guardV_split (fun h => ?_) (fun h => ?_) <;> (try rw [h]) <;> (try simp at h) <;> (try (exfalso; omega))))
      rw [hb] at hall
      rw [decide_eq_true (tableTo_all.1 hall)] at hK
      exact hK
end Go.Aff.L21

/- Walking: an owner of one's own that grows. -/
namespace Go.Aff
set_option linter.unusedVariables false

variable {P : Program} {σ s : AST} {tk : Tk} {K : AV → AST → Prop}

/-- Behind σ, with an owner that was not there, who has n elements of e cells. -/
structure Gr (σ s : AST) (tk : Tk) (n : Nat) (e : Nat := 1) : Prop where
  x : Ext σ s
  t : tkNew σ tk
  c : canApp s tk n e
theorem Gr.start {n e : Nat} : Gr σ σ .full n e := ⟨Ext.refl _, .inl rfl, trivial⟩
theorem Gr.start' {n e : Nat} (h : Ext σ s) : Gr σ s .full n e := ⟨h, .inl rfl, trivial⟩
theorem Gr.grow {n m e : Nat} (h : Gr σ s tk n e) : Gr σ (growS s tk m e) (growT s tk) m e := ⟨h.x.grow h.t, h.t.grow h.x, canApp_grow h.c⟩
theorem Gr.app {n e : Nat} {l : List AObj} (h : Gr σ s tk n e) : Gr σ (s.app l) tk n e := ⟨h.x.trans (Ext.app _ _), h.t, by rw [canApp_app]; exact h.c⟩
theorem Gr.set {σ s : AST} {tk : Tk} {n e i : Nat} {o : AObj} (h : Gr σ s tk n e) (hi : σ.objs.length ≤ i) : Gr σ (s.set i o) tk n e := ⟨h.x.set hi, h.t, by rw [canApp_set]; exact h.c⟩
theorem canApp_of {n m e : Nat} (h : canApp s tk n e) (hm : m = n) : canApp s tk m e := by subst hm; exact h
theorem growS_objs {n e : Nat} : (growS σ tk n e).objs = σ.objs := by cases tk <;> rfl

/-! ### Parts put in, by rewriting -/
variable {KV : AV → Prop}
def fillE (P : Program) (t : TypeId) (ps : List AV) (u : Option AV) (i : Nat) (x : AV) (r : List (Nat × AV)) (K : AV → Prop) : Prop := match u with
  | some u => partIs P t ps i x ∧ u.shape = x.shape ∧ x.known = true ∧ fillW P t r (.agg (ps.set i x)) K
  | none => False
theorem fill_agg {t : TypeId} {i : Nat} {x : AV} {r : List (Nat × AV)} {ps : List AV} : fillW P t ((i, x) :: r) (.agg ps) KV = fillE P t ps ps[i]? i x r KV := by
  rw [fillW.eq_2]
  cases h : ps[i]? with
  | none => simp [fillE]
  | some u => simp [fillE]
theorem fillE_some {t : TypeId} {i : Nat} {x u : AV} {r : List (Nat × AV)} {ps : List AV} : fillE P t ps (some u) i x r KV = ((partIs P t ps i x ∧ u.shape = x.shape ∧ x.known = true) ∧ @Later ⟨fillW P t r (.agg (ps.set i x)) KV⟩) := by
  simp [fillE, Later, and_assoc]
theorem fill_nil' {t : TypeId} {v : AV} : fillW P t [] v KV = KV v := by cases v <;> rfl
attribute [go_sem] fill_agg fillE_some fill_nil'
end Go.Aff

/- Drawn regions by trees of orders. -/
namespace Go.Aff
set_option linter.unusedVariables false
set_option linter.unusedSimpArgs false

variable {P : Program} {σ σ' : AST} {ops : Array Oper} {τ : Env} {KE : Env → AST → Prop}

/-- Orders with a word on each operation: 0: it reads, and that must stay; 1: it may leave something behind; 2: it reads, and stands ahead of all that is left behind later. -/
inductive Tf where
  | nil
  | op (i k : Nat) (r : Tf)
  | fork (e : Nat) (a b : Tf)
def Tf.tr : Tf → Tr
  | .nil => .nil
  | .op i _ r => .op i r.tr
  | .fork e a b => .fork e a.tr b.tr
/-- Those that may leave something behind. -/
def Tf.effs : Tf → List Nat
  | .nil => []
  | .op i k r => if k = 1 then i :: r.effs else r.effs
  | .fork _ a b => a.effs ++ b.effs

def seqT (P : Program) (ops : Array Oper) : Tf → List Nat → Env → AST → (Env → AST → Prop) → Prop
  | .nil, ks, τ, σ, K => K τ σ
  | .op i 1 r, ks, τ, σ, K => match gop ops i with
    | none => False
    | some o => stepW P ops o τ σ fun v σ' => keeps ks σ σ' ∧ seqT P ops r ks (τ.putO o.dst v) σ' K
  | .op i 0 r, ks, τ, σ, K => match gop ops i with
    | none => False
    | some o => stepW P ops o τ σ fun v σ' => σ' = σ ∧ seqT P ops r (reads (ev τ) o.op ++ ks) (τ.putO o.dst v) σ' K
  | .op i _ r, ks, τ, σ, K => match gop ops i with
    | none => False
    | some o => stepW P ops o τ σ fun v σ' => σ' = σ ∧ seqT P ops r ks (τ.putO o.dst v) σ' K
  | .fork _ a b, ks, τ, σ, K => seqT P ops a ks τ σ K ∧ seqT P ops b ks τ σ K

def flagsT (P : Program) (ops : Array Oper) : Tf → Bool
  | .nil => true
  | .op i k r => (match ops[i]? with
    | none => false
    | some o => effO P o == (k == 1)) && (k == 0 || k == 1 || r.effs.all fun y => ahead (anc ops) y i) && flagsT P ops r
  | .fork _ a b => flagsT P ops a && flagsT P ops b

def pastT (P : Program) (ops : Array Oper) (ks : List Nat) (past : List (Nat × Env × AV)) (r : List Nat) (σ : AST) : Prop :=
  ∀ x ∈ past, (∀ o, ops[x.1]? = some o → (∀ t, lenOk (x.2.1 t)) ∧ effO P o = false ∧ (∀ k ∈ reads (ev x.2.1) o.op, k ∈ ks) ∧ stepW P ops o x.2.1 σ fun v' σ'' => v' = x.2.2 ∧ σ'' = σ) ∨ (∀ y ∈ r, ahead (anc ops) y x.1 = true)

theorem seqT_awpT : ∀ (T : Tf) (ks : List Nat) (past : List (Nat × Env × AV)) (τ : Env) (σ : AST), flagsT P ops T = true → pastT P ops ks past T.effs σ → (∀ t, lenOk (τ t)) → seqT P ops T ks τ σ KE → awpT P ops T.tr past τ σ KE
  | .nil, ks, past, τ, σ, hf, hp, hlen, h => h
  | .fork e a b, ks, past, τ, σ, hf, hp, hlen, h => by
    simp only [flagsT, Bool.and_eq_true] at hf
    simp only [seqT] at h
    exact ⟨seqT_awpT a ks past τ σ hf.1 (fun x hx => (hp x hx).imp id fun h y hy => h y (by simp [Tf.effs, hy])) hlen h.1, seqT_awpT b ks past τ σ hf.2 (fun x hx => (hp x hx).imp id fun h y hy => h y (by simp [Tf.effs, hy])) hlen h.2⟩
  | .op i 1 r, ks, past, τ, σ, hf, hp, hlen, h => by
    simp only [seqT] at h
    split at h
    · exact h.elim
    · rename_i o hk
      have hk : ops[i]? = some o := hk
      simp only [flagsT, hk, Bool.and_eq_true, beq_iff_eq] at hf
      have he : effO P o = true := by simpa using hf.1.1
      simp only [Tf.tr, awpT, hk, he, if_true]
      refine stepW_mono (fun v σ' hh => ?_) h
      refine ⟨fun x hx hah o ho => ?_, fun hlv => seqT_awpT r ks past _ _ hf.2 ?_ hlv hh.2⟩
      · rcases hp x hx with h0 | h0
        · obtain ⟨h1, h2, h3, h4⟩ := h0 o ho
          exact step_same h1 h2 (fun k hk => hh.1 k (h3 k hk)) h4
        · rw [h0 i (by simp [Tf.effs])] at hah; cases hah
      · intro x hx
        rcases hp x hx with h0 | h0
        · left
          intro o ho
          obtain ⟨h1, h2, h3, h4⟩ := h0 o ho
          exact ⟨h1, h2, h3, step_same h1 h2 (fun k hk => hh.1 k (h3 k hk)) h4⟩
        · right
          intro y hy; exact h0 y (by simp [Tf.effs, hy])
  | .op i 0 r, ks, past, τ, σ, hf, hp, hlen, h => by
    simp only [seqT] at h
    split at h
    · exact h.elim
    · rename_i o hk
      have hk : ops[i]? = some o := hk
      simp only [flagsT, hk, Bool.and_eq_true, beq_iff_eq] at hf
      have he : effO P o = false := by simpa using hf.1.1
      simp only [Tf.tr, awpT, hk, he, Bool.false_eq_true, if_false]
      obtain ⟨v, hv, hkk⟩ := stepW_det hlen he h
      refine hkk _ fun hlv => seqT_awpT r _ _ _ _ hf.2 ?_ hlv hv.2
      intro x hx
      rcases List.mem_cons.1 hx with rfl | hx
      · left
        intro o' ho'
        dsimp only at ho' ⊢
        rw [hk] at ho'; cases ho'
        exact ⟨hlen, he, fun k hk => List.mem_append_left _ hk, hkk _ ⟨rfl, rfl⟩⟩
      · rcases hp x hx with h0 | h0
        · left
          intro o' ho'
          obtain ⟨h1, h2, h3, h4⟩ := h0 o' ho'
          exact ⟨h1, h2, fun k hk => List.mem_append_right _ (h3 k hk), h4⟩
        · right; intro y hy; exact h0 y (by simpa [Tf.effs] using hy)
  | .op i (n + 2) r, ks, past, τ, σ, hf, hp, hlen, h => by
    simp only [seqT] at h
    split at h
    · exact h.elim
    · rename_i o hk
      have hk : ops[i]? = some o := hk
      simp only [flagsT, hk, Bool.and_eq_true, beq_iff_eq] at hf
      have he : effO P o = false := by simpa using hf.1.1
      have hall := hf.1.2
      simp only [Tf.tr, awpT, hk, he, Bool.false_eq_true, if_false]
      obtain ⟨v, hv, hkk⟩ := stepW_det hlen he h
      refine hkk _ fun hlv => seqT_awpT r _ _ _ _ hf.2 ?_ hlv hv.2
      intro x hx
      rcases List.mem_cons.1 hx with rfl | hx
      · right
        intro y hy
        have hall : (r.effs.all fun y => ahead (anc ops) y i) = true := by simpa using hall
        rw [List.all_eq_true] at hall
        exact hall y hy
      · rcases hp x hx with h0 | h0
        · exact .inl h0
        · right; intro y hy; exact h0 y (by simpa [Tf.effs] using hy)

theorem awp_drawT {id : Nat} {ops : Array Oper} {Q : Exit → Env → AST → Prop} (T : Tf) (ho : (trOk P ops T.tr && flagsT P ops T) = true) (h : seqT P ops T [] τ σ (Q .normal)) : awp P (.region id ops true) Q τ σ := by
  rw [Bool.and_eq_true] at ho
  exact awp_drawTree _ ho.1 fun hlen => seqT_awpT T [] [] τ σ ho.2 (fun x hx => by simp at hx) hlen h

def seqT0 (P : Program) (ops : Array Oper) (o : Option Oper) (r : Tf) (ks : List Nat) (τ : Env) (σ : AST) (K : Env → AST → Prop) : Prop := match o with
  | none => False
  | some o => stepW P ops o τ σ fun v σ' => σ' = σ ∧ seqT P ops r (reads (ev τ) o.op ++ ks) (τ.putO o.dst v) σ' K
def seqT1 (P : Program) (ops : Array Oper) (o : Option Oper) (r : Tf) (ks : List Nat) (τ : Env) (σ : AST) (K : Env → AST → Prop) : Prop := match o with
  | none => False
  | some o => stepW P ops o τ σ fun v σ' => keeps ks σ σ' ∧ seqT P ops r ks (τ.putO o.dst v) σ' K
def seqT2 (P : Program) (ops : Array Oper) (o : Option Oper) (r : Tf) (ks : List Nat) (τ : Env) (σ : AST) (K : Env → AST → Prop) : Prop := match o with
  | none => False
  | some o => stepW P ops o τ σ fun v σ' => σ' = σ ∧ seqT P ops r ks (τ.putO o.dst v) σ' K
variable {ks : List Nat}
theorem seqT_nil : seqT P ops .nil ks τ σ KE = KE τ σ := nr rfl
theorem seqT_1 {i : Nat} {r : Tf} : seqT P ops (.op i 1 r) ks τ σ KE = seqT1 P ops (gop ops i) r ks τ σ KE := by simp only [seqT, seqT1]
theorem seqT_0 {i : Nat} {r : Tf} : seqT P ops (.op i 0 r) ks τ σ KE = seqT0 P ops (gop ops i) r ks τ σ KE := by simp only [seqT, seqT0]
theorem seqT_2 {i : Nat} {r : Tf} : seqT P ops (.op i 2 r) ks τ σ KE = seqT2 P ops (gop ops i) r ks τ σ KE := by simp only [seqT, seqT2]
structure Both (A B : Prop) : Prop where
  l : A
  r : B
theorem seqT_fork {e : Nat} {a b : Tf} : seqT P ops (.fork e a b) ks τ σ KE = Both (@Later ⟨seqT P ops a ks τ σ KE⟩) (@Later ⟨seqT P ops b ks τ σ KE⟩) := by
  simp only [seqT, Later, eq_iff_iff]
  exact ⟨fun h => ⟨h.1, h.2⟩, fun h => ⟨h.l, h.r⟩⟩
theorem both_ways {A B : Prop} (ha : A) (hb : B) : Both (@Later ⟨A⟩) (@Later ⟨B⟩) := ⟨ha, hb⟩
theorem seqT1_some {o : Oper} {r : Tf} : seqT1 P ops (some o) r ks τ σ KE = stepW P ops o τ σ (@Lam ⟨fun v σ' => @Later ⟨keeps ks σ σ' ∧ seqT P ops r ks (τ.putO o.dst v) σ' KE⟩⟩) := nr rfl
theorem seqT0_some {o : Oper} {r : Tf} : seqT0 P ops (some o) r ks τ σ KE = stepW P ops o τ σ (@Lam ⟨fun v σ' => σ' = σ ∧ @Later ⟨seqT P ops r (reads (ev τ) o.op ++ ks) (τ.putO o.dst v) σ' KE⟩⟩) := nr rfl
theorem seqT2_some {o : Oper} {r : Tf} : seqT2 P ops (some o) r ks τ σ KE = stepW P ops o τ σ (@Lam ⟨fun v σ' => σ' = σ ∧ @Later ⟨seqT P ops r ks (τ.putO o.dst v) σ' KE⟩⟩) := nr rfl
attribute [go_sem ↓] seqT_nil seqT_0 seqT_1 seqT_2 seqT_fork seqT0_some seqT1_some seqT2_some
end Go.Aff

/- Layer 21, walked: numbers, texts behind one another. -/
namespace Go.Aff.L21
open Go.Proofs Go.Aff Go.Aff.L01 Classical
set_option linter.unusedVariables false
set_option linter.unusedSimpArgs false
attribute [local go_sem] push_app app_app length_app cellAt_app cellAt_app0 set_app set_app0 objs_app objs_app0 List.cons_append List.nil_append List.length_cons List.length_nil List.getElem?_cons_zero List.getElem?_cons_succ List.set_cons_zero List.set_cons_succ
attribute [-go_sem] cellAt_new
attribute [local go_sem] Try.underlying3 fits4 Try.underlying4 fits5 Try.underlying5 Try.underlying9 fits22 Try.underlying22 fits23 Try.underlying23 fits29 Try.underlying29 fits43 Try.underlying43 fits44 Try.underlying44 fits46 p46_0 p46_1 p46_2 p46_3 p46_4 p46_5 Try.underlying46 fits64 p64_0 p64_1 Try.underlying64
attribute [local go_sem] fits3 fits9
attribute [local go_sem ↓] blockQ_exit2
attribute [local go_sem] List.length_map
attribute [-simp] List.length_flatMap

/-- An owner goes on. -/
def Goes (σ s : AST) (tk tk' : Tk) : Prop := s.objs = σ.objs ∧ ∀ σ0, Ext σ0 σ → tkNew σ0 tk → Ext σ0 s ∧ tkNew σ0 tk'
theorem Goes.refl {σ : AST} {tk : Tk} : Goes σ σ tk tk := ⟨rfl, fun _ h k => ⟨h, k⟩⟩
theorem Goes.grow {σ s : AST} {tk tk' : Tk} {n : Nat} (h : Goes σ s tk tk') : Goes σ (growS s tk' n 1) tk (growT s tk') := ⟨growS_objs.trans h.1, fun σ0 h0 k0 =>
  have ⟨h1, h2⟩ := h.2 σ0 h0 k0; ⟨h1.grow h2, h2.grow h1⟩⟩
theorem Goes.cell {σ s : AST} {tk tk' : Tk} {l : List AObj} {v : AV} (h : Goes (σ.app l) s tk tk') (hl : l[0]? = some (.cells v)) (p : List Nat) : cellAt s σ.objs.length p = v.at p := by
  simp only [cellAt, h.1]
  rw [objs_app0, hl]; rfl
theorem flatN {α : Type} {f : α → List UInt8} {l : List α} {m i : Nat} (h : ∀ x ∈ l, (f x).length ≤ m) : ((l.take i).flatMap f).length ≤ l.length * m := by
  have := flat_len (f := f) (m := m) (l := l.take i) (fun x hx => h x (List.mem_of_mem_take hx))
  have h2 : (l.take i).length * m ≤ l.length * m := Nat.mul_le_mul_right m (by simp; omega)
  omega
def InI (l : List Int) : Prop := ∀ n ∈ l, -9223372036854775808 ≤ n ∧ n ≤ 9223372036854775807
theorem numsN {l : List Int} (hl : InI l) : ∀ i, ((l.take i).flatMap numS).length ≤ l.length * 22 := fun i => flatN fun n hn => numS_len (hl n hn).1 (hl n hn).2

theorem Goes.gr {σ s σ0 : AST} {tk tk' : Tk} {n m : Nat} (h : Goes σ s tk tk') (hg : Gr σ0 σ tk n) (hc : canApp s tk' m 1) : Gr σ0 s tk' m := ⟨(h.2 σ0 hg.x hg.t).1, (h.2 σ0 hg.x hg.t).2, hc⟩
theorem intsB_c {xs : List UInt8} {l : List Int} {tk t2 : Tk} {σ : AST} {K : AV → AST → Prop} (hl : InI l) (hn : l.length ≤ 1000000) (hx : xs.length ≤ 1000000000) (hcan : canApp σ tk xs.length 1)
    (hK : ∀ s tk', Goes σ s tk tk' → canApp s tk' (xs ++ l.flatMap numS).length 1 → K (.slice tk' (u8s (xs ++ l.flatMap numS))) s) : TCalls Try.prog 23 [.slice tk (u8s xs), .slice t2 (l.map (AV.int .i64))] σ K := by
  have hN := numsN hl
  refine tcalls_walk Try.f23 _ [.tmp 4] Try.func23 rfl rfl rfl mixed (Nat.le_of_ble_eq_true rfl) rfl fun hlen => ?_
  simp -dsimp only [↓reduceIte, go_sem]
  refine arr_intro fun _ => ?_
  simp only [List.length_map]
  simp -dsimp only [↓reduceIte, go_sem]
  refine awp_rounds (fun (i : Nat) τ s => ∃ tk', i ≤ l.length ∧ Goes σ s tk tk' ∧ canApp s tk' (xs ++ (l.take i).flatMap numS).length 1 ∧ τ 0 = .slice tk' (u8s (xs ++ (l.take i).flatMap numS)) ∧ τ 7 = .slice t2 (l.map (AV.int .i64)) ∧ τ 8 = .int .i64 l.length ∧ τ 9 = .int .i64 i) (fun i => l.length - i) 0 ?_ ?_
  · refine ⟨tk, by omega, Goes.refl, by simpa using hcan, ?_, ?_, ?_, ?_⟩ <;> (try simp only [go_sem]) <;> (try rfl) <;> simp
  · rintro i τ s ⟨tk', hi, hg, hc, t0, t7, t8, t9⟩
    simp -dsimp only [↓reduceIte, go_sem, t0, t7, t8, t9]
    refine boolW_split (fun hb => ?_) (fun hb => ?_)
    · have hb : i < l.length := by simp at hb; omega
      obtain ⟨y, hy⟩ := get_lt hb
      have hyl := hl y (List.mem_of_getElem? hy)
      have h22 := numS_len hyl.1 hyl.2
      have hNi := hN i
      repeat' (first | (simp -dsimp only [↓reduceIte, go_sem, t0, t7, t8, t9]) | (refine arr_intro fun _ => ?_) | (refine later_intro ⟨keeps_nil, ?_⟩) | (refine later_intro ⟨keeps_refl, ?_⟩) | (refine both_ways ?_ ?_) | (rw [wrap_i64 (by omega) (by omega)]) | (refine guardV_split (fun h => ?_) (fun h => ?_) <;> (try rw [h]) <;> (try simp at h) <;> (try (exfalso; omega))) | (refine nth_get hy ?_) | (refine number_c hyl.1 hyl.2 ?_) | (refine append_text E51 Try.underlying9 hc (by simp only [List.length_append]; omega) (by simp only [maxL, List.length_append]; omega) ?_))
      have e : (l.take (i + 1)).flatMap numS = (l.take i).flatMap numS ++ numS y := flat_take hy
      refine later_intro ⟨i + 1, by omega, growT s tk', by omega, hg.grow, ?_, ?_, ?_, ?_, ?_⟩ <;> (try simp only [go_sem, t0, t7, t8, t9]) <;> (try rfl)
      · rw [e, ← List.append_assoc]; simp only [List.length_append]; exact canApp_grow hc
      · rw [e, List.append_assoc]
    · have hb : i = l.length := by simp at hb; omega
      rw [hb, List.take_length] at t0 hc
      repeat' (first | (simp -dsimp only [↓reduceIte, go_sem, t0, t7, t8, t9]) | (refine arr_intro fun _ => ?_) | (refine later_intro ⟨keeps_nil, ?_⟩) | (refine later_intro ⟨keeps_refl, ?_⟩) | (refine both_ways ?_ ?_) | (rw [wrap_i64 (by omega) (by omega)]) | (refine guardV_split (fun h => ?_) (fun h => ?_) <;> (try rw [h]) <;> (try simp at h) <;> (try (exfalso; omega))))
      exact hK _ _ hg hc

theorem Ints_c {l : List Int} {tk : Tk} {σ : AST} {K : AV → AST → Prop} (hl : InI l) (hn : l.length ≤ 1000000) (hK : K (.str (l.flatMap numS)) σ) : TCalls Try.prog 27 [.slice tk (l.map (AV.int .i64))] σ K := by
  have hN := numsN hl
  refine tcalls_walk Try.f27 _ [.tmp 2] Try.func27 rfl rfl rfl mixed (Nat.le_of_ble_eq_true rfl) rfl fun hlen => ?_
  simp -dsimp only [↓reduceIte, go_sem]
  refine awp_rounds (fun (i : Nat) τ s => s = σ ∧ i ≤ l.length ∧ τ 0 = .slice tk (l.map (AV.int .i64)) ∧ τ 3 = .str ((l.take i).flatMap numS) ∧ τ 4 = .int .i64 i) (fun i => l.length - i) 0 ?_ ?_
  · refine ⟨rfl, by omega, ?_, ?_, ?_⟩ <;> (try simp only [go_sem]) <;> rfl
  · rintro i τ s ⟨rfl, hi, t0, t3, t4⟩
    simp -dsimp only [↓reduceIte, go_sem, t0, t3, t4]
    refine arr_intro fun _ => ?_
    simp only [List.length_map]
    simp -dsimp only [↓reduceIte, go_sem, t0, t3, t4]
    refine boolW_split (fun hb => ?_) (fun hb => ?_)
    · have hb : i < l.length := by simp at hb; omega
      obtain ⟨y, hy⟩ := get_lt hb
      have hyl := hl y (List.mem_of_getElem? hy)
      have h22 := numS_len hyl.1 hyl.2
      have hNi := hN i
      repeat' (first | (simp -dsimp only [↓reduceIte, go_sem, t0, t3, t4]) | (refine arr_intro fun _ => ?_) | (refine later_intro ⟨keeps_nil, ?_⟩) | (refine later_intro ⟨keeps_refl, ?_⟩) | (refine both_ways ?_ ?_) | (rw [wrap_i64 (by omega) (by omega)]) | (refine guardV_split (fun h => ?_) (fun h => ?_) <;> (try rw [h]) <;> (try simp at h) <;> (try (exfalso; omega))) | (refine nth_get hy ?_) | (refine Number_c hyl.1 hyl.2 ?_) | (refine side_later (by simp only [maxL]; omega) ?_))
      refine later_intro ⟨i + 1, by omega, rfl, by omega, ?_, ?_, ?_⟩ <;> (try simp only [go_sem, t0, t3, t4, flat_take hy]) <;> rfl
    · have hb : i = l.length := by simp at hb; omega
      rw [hb, List.take_length] at t3
      repeat' (first | (simp -dsimp only [↓reduceIte, go_sem, t0, t3, t4]) | (refine arr_intro fun _ => ?_) | (refine later_intro ⟨keeps_nil, ?_⟩) | (refine later_intro ⟨keeps_refl, ?_⟩) | (refine both_ways ?_ ?_) | (rw [wrap_i64 (by omega) (by omega)]) | (refine guardV_split (fun h => ?_) (fun h => ?_) <;> (try rw [h]) <;> (try simp at h) <;> (try (exfalso; omega))))
      exact hK

theorem Text_c {s : List UInt8} {σ : AST} {K : AV → AST → Prop} (hn : s.length ≤ 1000000000) (hK : K (.str (textS s)) σ) : TCalls Try.prog 52 [.str s] σ K := by
  have h20 := dg_len20 (n := s.length) (by omega)
  refine tcalls_walk Try.f52 _ [.tmp 2] Try.func52 rfl rfl rfl mixed (Nat.le_of_ble_eq_true rfl) rfl fun hlen => ?_
  repeat' (first | (simp -dsimp only [↓reduceIte, go_sem]) | (refine arr_intro fun _ => ?_) | (refine later_intro ⟨keeps_nil, ?_⟩) | (refine later_intro ⟨keeps_refl, ?_⟩) | (refine both_ways ?_ ?_) | (rw [wrap_i64 (by omega) (by omega)]) | (refine guardV_split (fun h => ?_) (fun h => ?_) <;> (try rw [h]) <;> (try simp at h) <;> (try (exfalso; omega))) | (refine Digits_i (by omega) (by omega) ?_) | (refine side_later (by simp only [maxL, List.length_append, List.length_cons, List.length_nil, Int.toNat_natCast]; omega) ?_))
  exact hK

theorem Texts_c {l : List (List UInt8)} {tk : Tk} {σ : AST} {K : AV → AST → Prop} (hl : ∀ s ∈ l, s.length ≤ 1000) (hn : l.length ≤ 1000000) (hK : K (.str (laidAll textS l)) σ) : TCalls Try.prog 28 [.slice tk (l.map AV.str)] σ K := by
  have hN : ∀ i, ((l.take i).flatMap textS).length ≤ l.length * 1021 := fun i => flatN fun s hs => by
    have := hl s hs; have h2 := dg_len20 (n := s.length) (by omega); simp only [textS, List.length_append, List.length_cons, List.length_nil]; omega
  refine tcalls_walk Try.f28 _ [.tmp 2] Try.func28 rfl rfl rfl mixed (Nat.le_of_ble_eq_true rfl) rfl fun hlen => ?_
  simp -dsimp only [↓reduceIte, go_sem]
  refine awp_rounds (fun (i : Nat) τ s => s = σ ∧ i ≤ l.length ∧ τ 0 = .slice tk (l.map AV.str) ∧ τ 3 = .str (L01.part textS l i) ∧ τ 4 = .int .i64 i) (fun i => l.length - i) 0 ?_ ?_
  · refine ⟨rfl, by omega, ?_, ?_, ?_⟩ <;> (try simp only [go_sem]) <;> rfl
  · rintro i τ s ⟨rfl, hi, t0, t3, t4⟩
    have hNi := hN i
    have hp : (L01.part textS l i).length ≤ 1 + l.length * 1021 := by simp only [L01.part, List.length_cons]; omega
    simp -dsimp only [↓reduceIte, go_sem, t0, t3, t4]
    refine arr_intro fun _ => ?_
    simp only [List.length_map]
    simp -dsimp only [↓reduceIte, go_sem, t0, t3, t4]
    refine boolW_split (fun hb => ?_) (fun hb => ?_)
    · have hb : i < l.length := by simp at hb; omega
      obtain ⟨y, hy⟩ := get_lt hb
      have hyl := hl y (List.mem_of_getElem? hy)
      have h2 := dg_len20 (n := y.length) (by omega)
      repeat' (first | (simp -dsimp only [↓reduceIte, go_sem, t0, t3, t4]) | (refine arr_intro fun _ => ?_) | (refine later_intro ⟨keeps_nil, ?_⟩) | (refine later_intro ⟨keeps_refl, ?_⟩) | (refine both_ways ?_ ?_) | (rw [wrap_i64 (by omega) (by omega)]) | (refine guardV_split (fun h => ?_) (fun h => ?_) <;> (try rw [h]) <;> (try simp at h) <;> (try (exfalso; omega))) | (refine nth_get hy ?_) | (refine Text_c (by omega) ?_) | (refine side_later (by simp only [maxL, textS, List.length_append, List.length_cons, List.length_nil]; omega) ?_))
      refine later_intro ⟨i + 1, by omega, rfl, by omega, ?_, ?_, ?_⟩ <;> (try simp only [go_sem, t0, t3, t4, part_succ hy]) <;> rfl
    · have hb : i = l.length := by simp at hb; omega
      rw [hb] at t3 hp
      repeat' (first | (simp -dsimp only [↓reduceIte, go_sem, t0, t3, t4]) | (refine arr_intro fun _ => ?_) | (refine later_intro ⟨keeps_nil, ?_⟩) | (refine later_intro ⟨keeps_refl, ?_⟩) | (refine both_ways ?_ ?_) | (rw [wrap_i64 (by omega) (by omega)]) | (refine guardV_split (fun h => ?_) (fun h => ?_) <;> (try rw [h]) <;> (try simp at h) <;> (try (exfalso; omega))) | (refine side_later (by simp only [maxL, List.length_append, List.length_cons, List.length_nil]; omega) ?_))
      exact hK
end Go.Aff.L21

/- Layer 21, walked: tables laid. -/
namespace Go.Aff.L21
open Go.Proofs Go.Aff Go.Aff.L01 Classical
set_option linter.unusedVariables false
set_option linter.unusedSimpArgs false
attribute [local go_sem] push_app app_app length_app cellAt_app cellAt_app0 set_app set_app0 objs_app objs_app0 List.cons_append List.nil_append List.length_cons List.length_nil List.getElem?_cons_zero List.getElem?_cons_succ List.set_cons_zero List.set_cons_succ
attribute [-go_sem] cellAt_new
attribute [local go_sem] Try.underlying3 fits4 Try.underlying4 fits5 Try.underlying5 Try.underlying9 fits22 Try.underlying22 fits23 Try.underlying23 fits29 Try.underlying29 fits43 Try.underlying43 fits44 Try.underlying44 fits46 p46_0 p46_1 p46_2 p46_3 p46_4 p46_5 Try.underlying46 fits64 p64_0 p64_1 Try.underlying64
attribute [local go_sem] fits3 fits9
attribute [local go_sem ↓] blockQ_exit2
attribute [local go_sem] List.length_map
attribute [-simp] List.length_flatMap
attribute [local go_sem] zt46 zero46 size_leaf agg_leaf shape_leafV known_leaf

def numsB (l : List Int) : List UInt8 := if 512 < l.length then [] else laidAll numS l
def numsE (l : List Int) : Int := if 512 < l.length then 4 else 0
theorem numbersB_c {l : List Int} (hl : InI l) {tk0 : Tk} {σ : AST} {K : AV → AST → Prop} (hK : K (.tuple [.str (numsB l), .int .i64 (numsE l)]) σ) : TCalls Try.prog 24 [.slice tk0 (l.map (AV.int .i64))] σ K := by
  refine numbers_c hl ?_
  unfold numsB numsE at hK
  split <;> rename_i h <;> simpa [h] using hK
noncomputable def textsB (l : List (List UInt8)) : List UInt8 := if 512 < l.length ∨ ∃ s ∈ l, 16384 < s.length then [] else laidAll textS l
noncomputable def textsE (l : List (List UInt8)) : Int := if 512 < l.length ∨ ∃ s ∈ l, 16384 < s.length then 4 else 0
theorem textsB_c {l : List (List UInt8)} {tk0 : Tk} {σ : AST} {K : AV → AST → Prop} (hK : K (.tuple [.str (textsB l), .int .i64 (textsE l)]) σ) : TCalls Try.prog 25 [.slice tk0 (l.map AV.str)] σ K := by
  refine texts_c ?_
  unfold textsB textsE at hK
  unfold textsR
  split
  · rename_i h; rw [if_pos h, if_pos h] at hK; exact hK
  · rename_i h; rw [if_neg h, if_neg h] at hK; exact hK

noncomputable def leafG (x : Leaf) : List UInt8 := [x.num, x.kind, x.size].flatMap numS ++ numsB x.blocks ++ textsB x.names ++ numsB x.nodes
def leafS (x : Leaf) : List UInt8 := [x.num, x.kind, x.size].flatMap numS ++ laidAll numS x.blocks ++ laidAll textS x.names ++ laidAll numS x.nodes
theorem numsB_len {l : List Int} (hl : InI l) : (numsB l).length ≤ 11300 := by
  unfold numsB
  split
  · simp
  · rename_i h
    have := numsN hl l.length
    rw [List.take_length] at this
    simp only [laidAll, part_all, List.length_append, List.length_cons, List.length_nil]; omega
theorem textsB_len {l : List (List UInt8)} (h : ∀ s ∈ l, s.length ≤ 12) : (textsB l).length ≤ 17000 := by
  unfold textsB
  split
  · simp
  · rename_i h2
    have h3 : ¬ 512 < l.length := fun h => h2 (.inl h)
    have := flat_len (f := textS) (m := 33) (l := l) fun s hs => by
      have := h s hs; have h2 := dg_len20 (n := s.length) (by omega); simp only [textS, List.length_append, List.length_cons, List.length_nil]; omega
    simp only [laidAll, part_all, List.length_append, List.length_cons, List.length_nil]; omega
theorem Leaf.Right.ints {x : Leaf} (h : x.Right) : InI x.blocks ∧ InI x.nodes ∧ InI [x.num, x.kind, x.size] ∧ ∀ s ∈ x.names, s.length ≤ 12 := by
  obtain ⟨h1, h2, h3⟩ := h
  rcases h3 with ⟨hk, hb, h0, h5, hl, hn, hd⟩ | ⟨hk, hn, hd, h0, hb, hl⟩
  · refine ⟨fun n hn => by have := hb n hn; omega, by rw [hd]; intro n hn; simp at hn, ?_, by rw [hn]; intro n hn; simp at hn⟩
    intro n hn; simp at hn; omega
  · refine ⟨by rw [hb]; intro n hn; simp at hn, fun n hn => by have := hd n hn; omega, ?_, ?_⟩
    · intro n hn; simp at hn; omega
    · intro s hs
      obtain ⟨i, hi⟩ := List.mem_iff_getElem?.1 hs
      have := (hn i s hi).1
      simp only [nameB, decide_eq_true_eq] at this
      exact this.2.1
theorem leafG_len {x : Leaf} (h : x.Right) : (leafG x).length ≤ 40000 := by
  obtain ⟨h1, h2, h3, h4⟩ := h.ints
  have := numsN h3 3
  have h5 := numsB_len h1
  have h6 := numsB_len h2
  have h7 := textsB_len h4
  simp only [List.take_succ_cons, List.take_zero, List.length_cons, List.length_nil] at this
  simp only [leafG, List.length_append]; omega
theorem table_len {l : List Leaf} (h : Table l) : l.length ≤ 32 := by
  have key : ∀ (i : Nat) x, l[i]? = some x → (i : Int) + 1 ≤ x.num := by
    intro i
    induction i with
    | zero => intro x hx; have := (h 0 x hx).1.1; omega
    | succ i ih =>
      intro x hx
      obtain ⟨z, hz⟩ := get_lt (l := l) (i := i) (by have := (List.getElem?_eq_some_iff.1 hx).1; omega)
      have h1 := (h (i + 1) x hx).2 z (by omega) (by simpa using hz)
      have := ih z hz; omega
  by_cases h0 : l.length = 0
  · omega
  · obtain ⟨z, hz⟩ := get_lt (l := l) (i := l.length - 1) (by omega)
    have := key _ z hz; have := (h _ z hz).1.2.1; omega
noncomputable def putG (l : List Leaf) : List UInt8 × Int := if Table l then (if 4096 < (l.flatMap leafG).length then ([], 4) else (l.flatMap leafG, 0)) else ([], 2)

theorem put_c {l : List TLeaf} {tk : Tk} {σ : AST} {K : AV → AST → Prop} (hK : K (.tuple [.str (putG (l.map (·.x))).1, .int .i64 (putG (l.map (·.x))).2]) σ) : TCalls Try.prog 7 [.slice tk (l.map leafV)] σ K := by
  refine TCalls.drop ?_
  refine tcalls_walk Try.f7 _ [.tmp 2, .tmp 3] Try.func7 rfl rfl rfl mixed (Nat.le_of_ble_eq_true rfl) rfl fun hlen => ?_
  repeat' (first | (simp -dsimp only [↓reduceIte, go_sem]) | (refine arr_intro fun _ => ?_) | (refine later_intro ⟨keeps_nil, ?_⟩) | (refine later_intro ⟨keeps_refl, ?_⟩) | (refine both_ways ?_ ?_) | (rw [wrap_i64 (by omega) (by omega)]) | (refine guardV_split (fun h => ?_) (fun h => ?_) <;> (try rw [h]) <;> (try simp at h) <;> (try (exfalso; omega))) | (refine table_c ?_))
  · rw [putG, if_neg ‹_›] at hK; exact ⟨Ext.refl _, rfl, hK⟩
  · have hT : Table (l.map (·.x)) := ‹_›
    rw [putG, if_pos hT] at hK
    have h32 := table_len hT
    have hR : ∀ y ∈ l, y.x.Right := fun y hy => by
      obtain ⟨i, hi⟩ := List.mem_iff_getElem?.1 hy
      exact (hT i y.x (tableAt hi)).1
    have hN : ∀ i, ((l.take i).flatMap fun y => leafG y.x).length ≤ l.length * 40000 := fun i => flatN fun y hy => leafG_len (hR y hy)
    rw [List.length_map] at h32
    refine awp_rounds (fun (i : Nat) τ s => ∃ tk' n, i ≤ l.length ∧ Gr σ s tk' n ∧ n = ((l.take i).flatMap fun y => leafG y.x).length ∧ τ 4 = .slice tk' (u8s ((l.take i).flatMap fun y => leafG y.x)) ∧ τ 16 = .slice tk (l.map leafV) ∧ τ 17 = .int .i64 l.length ∧ τ 18 = .int .i64 i) (fun i => l.length - i) 0 ?_ ?_
    · refine ⟨.full, 0, by omega, Gr.start, rfl, ?_, ?_, ?_, ?_⟩ <;> (try simp only [go_sem]) <;> rfl
    · rintro i τ s ⟨tk', n, hi, hgr, rfl, t4, t16, t17, t18⟩
      simp -dsimp only [↓reduceIte, go_sem, t4, t16, t17, t18]
      refine boolW_split (fun hb => ?_) (fun hb => ?_)
      · have hb : i < l.length := by simp at hb; omega
        obtain ⟨y, hy⟩ := get_lt hb
        have hyR := hR y (List.mem_of_getElem? hy)
        obtain ⟨hi1, hi2, hi3, hi4⟩ := hyR.ints
        have hNi := hN i
        have hG := leafG_len hyR
        have e : (l.take (i + 1)).flatMap (fun y => leafG y.x) = (l.take i).flatMap (fun y => leafG y.x) ++ leafG y.x := flat_take hy
        repeat' (first | (simp -dsimp only [↓reduceIte, go_sem, t4, t16, t17, t18, leafV]) | (refine arr_intro fun _ => ?_) | (refine later_intro ⟨keeps_nil, ?_⟩) | (refine later_intro ⟨keeps_refl, ?_⟩) | (refine both_ways ?_ ?_) | (rw [wrap_i64 (by omega) (by omega)]) | (refine guardV_split (fun h => ?_) (fun h => ?_) <;> (try rw [h]) <;> (try simp at h) <;> (try (exfalso; omega))) | (refine nth_get hy ?_) | (refine build_slice E44 rfl (by decide) (by intro v hv; simp at hv; rcases hv with rfl | rfl | rfl <;> exact ⟨by simp only [go_sem], rfl⟩) ?_))
        refine intsB_c (l := [y.x.num, y.x.kind, y.x.size]) hi3 (by simp) (by omega) (by rw [canApp_app]; exact hgr.c) fun s2 tk2 hg hc2 => ?_
        have hcell := hg.cell rfl
        have hgr2 := hg.gr hgr.app hc2
        have l1 := numsB_len hi1
        have l2 := numsB_len hi2
        have l3 := textsB_len hi4
        have l0 := numsN hi3 3
        simp only [List.take_succ_cons, List.take_zero, List.length_cons, List.length_nil] at l0
        repeat' (first | (simp -dsimp only [↓reduceIte, go_sem, t4, t16, t17, t18, hcell]) | (refine arr_intro fun _ => ?_) | (refine later_intro ⟨keeps_nil, ?_⟩) | (refine later_intro ⟨keeps_refl, ?_⟩) | (refine both_ways ?_ ?_) | (rw [wrap_i64 (by omega) (by omega)]) | (refine guardV_split (fun h => ?_) (fun h => ?_) <;> (try rw [h]) <;> (try simp at h) <;> (try (exfalso; omega))) | (refine numbersB_c hi1 ?_) | (refine textsB_c ?_) | (refine numbersB_c hi2 ?_) | (refine append_text E51 Try.underlying9 hc2 (by simp only [List.length_append]; omega) (by simp only [maxL, List.length_append]; omega) ?_) | (refine append_text E51 Try.underlying9 (by simp only [List.length_append]; exact canApp_grow hc2) (by simp only [List.length_append]; omega) (by simp only [maxL, List.length_append]; omega) ?_) | (refine append_text E51 Try.underlying9 (by simp only [List.length_append]; exact canApp_grow (canApp_grow hc2)) (by simp only [List.length_append]; omega) (by simp only [maxL, List.length_append]; omega) ?_))
        refine later_intro ⟨i + 1, by omega, _, _, by omega, hgr2.grow.grow.grow, ?_, ?_, ?_, ?_, ?_⟩ <;> (try simp only [go_sem, t4, t16, t17, t18]) <;> (try rfl)
        · rw [e]; simp only [leafG, List.length_append]; omega
        · rw [e]; simp only [leafG, List.append_assoc]
      · have hb : i = l.length := by simp at hb; omega
        have h4 := hN i
        rw [hb, List.take_length] at t4 h4
        have em : (l.map (·.x)).flatMap leafG = l.flatMap fun y => leafG y.x := by simp [List.flatMap_map]
        rw [em] at hK
        repeat' (first | (simp -dsimp only [↓reduceIte, go_sem, t4, t16, t17, t18, u8s_length]) | (refine arr_intro fun _ => ?_) | (refine later_intro ⟨keeps_nil, ?_⟩) | (refine later_intro ⟨keeps_refl, ?_⟩) | (refine both_ways ?_ ?_) | (rw [wrap_i64 (by omega) (by omega)]) | (refine guardV_split (fun h => ?_) (fun h => ?_) <;> (try rw [h]) <;> (try simp at h) <;> (try (exfalso; omega))))
        · skip
          rw [if_pos (by omega)] at hK; exact ⟨hgr.x, rfl, hK⟩
        · rw [if_neg (by omega)] at hK; exact ⟨hgr.x, rfl, hK⟩
end Go.Aff.L21

