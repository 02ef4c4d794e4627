import Derived.Test.YtpafajjginndcaaG22

/- Layer 21, walked: what reads a table. -/
namespace Go.Aff.L21
open Go.Proofs Go.Aff Go.Aff.L01 Classical
set_option linter.unusedVariables false
set_option linter.unusedSimpArgs false
attribute [local go_sem] push_app app_app length_app cellAt_app cellAt_app0 set_app set_app0 objs_app objs_app0 List.cons_append List.nil_append List.length_cons List.length_nil List.getElem?_cons_zero List.getElem?_cons_succ List.set_cons_zero List.set_cons_succ
attribute [-go_sem] cellAt_new
attribute [local go_sem] Try.underlying3 fits4 Try.underlying4 fits5 Try.underlying5 Try.underlying9 fits22 Try.underlying22 fits23 Try.underlying23 fits29 Try.underlying29 fits43 Try.underlying43 fits44 Try.underlying44 fits46 p46_0 p46_1 p46_2 p46_3 p46_4 p46_5 Try.underlying46 fits64 p64_0 p64_1 Try.underlying64
attribute [local go_sem] fits3 fits9
attribute [local go_sem ↓] blockQ_exit2
attribute [local go_sem] List.length_map
attribute [-simp] List.length_flatMap
attribute [local go_sem] zt46 zero46 size_leaf agg_leaf shape_leafV known_leaf tup3

theorem readL_prog {α : Type} {one : Nat → α × Int × Int} {s : List UInt8} : ∀ (k p : Nat) (acc : List α), s.length - p ≤ k → p ≤ s.length → (readL one s p acc).2.2 = 0 → (p : Int) < (readL one s p acc).2.1 ∧ (readL one s p acc).2.1 ≤ s.length := by
  intro k
  induction k with
  | zero =>
    intro p acc hk hp h
    have : p = s.length := by omega
    rw [readL, if_pos this] at h; simp at h
  | succ k ih =>
    intro p acc hk hp h
    rw [readL] at h ⊢
    by_cases h1 : p = s.length
    · rw [if_pos h1] at h; simp at h
    · rw [if_neg h1] at h ⊢
      by_cases h2 : bAt s p = 41
      · rw [if_pos h2]; dsimp only; omega
      · rw [if_neg h2] at h ⊢
        by_cases h3 : 512 ≤ acc.length
        · rw [if_pos h3] at h; simp at h
        · rw [if_neg h3] at h ⊢
          by_cases h4 : (one p).2.2 ≠ 0
          · rw [if_pos h4] at h; exact absurd h h4
          · rw [if_neg h4] at h ⊢
            by_cases h5 : (p : Int) < (one p).2.1 ∧ (one p).2.1 ≤ s.length
            · rw [dif_pos h5] at h ⊢
              have := ih (one p).2.1.toNat _ (by omega) (by omega) h
              omega
            · rw [dif_neg h5] at h; simp at h
theorem readR_prog {α : Type} {one : Nat → α × Int × Int} {s : List UInt8} {i : Int} (h : (readR one s i).2.2 = 0) : i < (readR one s i).2.1 ∧ (readR one s i).2.1 ≤ s.length := by
  unfold readR at h ⊢
  by_cases h1 : i < 0 ∨ (s.length : Int) < i
  · rw [if_pos h1] at h; simp at h
  · rw [if_neg h1] at h ⊢
    by_cases h2 : i.toNat = s.length
    · rw [if_pos h2] at h; simp at h
    · rw [if_neg h2] at h ⊢
      by_cases h3 : bAt s i.toNat ≠ 40
      · rw [if_pos h3] at h; simp at h
      · rw [if_neg h3] at h ⊢
        have := readL_prog (one := one) _ (i.toNat + 1) [] (Nat.le_refl _) (by omega) h
        omega
theorem numR_prog {s : List UInt8} {i : Int} (h : (numR s i).2.2 = 0) : i < (numR s i).2.1 ∧ (numR s i).2.1 ≤ s.length := by
  unfold numR at h ⊢
  by_cases h1 : i < 0 ∨ (s.length : Int) < i
  · rw [if_pos h1] at h; simp at h
  · rw [if_neg h1] at h ⊢
    have := numP_prog (s := s) (q := i.toNat) (by omega) h
    omega

abbrev intsR (s : List UInt8) (i : Int) : List Int × Int × Int := readR (numP s) s i
abbrev strsR (s : List UInt8) (i : Int) : List (List UInt8) × Int × Int := readR (textP s) s i

/-- A leaf that is read. -/
def leafR (s : List UInt8) (p : Int) : Leaf × Int × Int :=
  let a := numR s p; let b := numR s a.2.1; let c := numR s b.2.1; let d := intsR s c.2.1; let e := strsR s d.2.1; let f := intsR s e.2.1
  (⟨a.1, b.1, c.1, d.1, e.1, f.1⟩, f.2.1, if a.2.2 ≠ 0 then a.2.2 else if b.2.2 ≠ 0 then b.2.2 else if c.2.2 ≠ 0 then c.2.2 else if d.2.2 ≠ 0 then d.2.2 else if e.2.2 ≠ 0 then e.2.2 else f.2.2)
theorem leafR_prog {s : List UInt8} {p : Int} (h : (leafR s p).2.2 = 0) : p < (leafR s p).2.1 ∧ (leafR s p).2.1 ≤ s.length := by
  simp only [leafR] at h ⊢
  have h1 : (numR s p).2.2 = 0 := by
    by_cases hh : (numR s p).2.2 = 0
    · exact hh
    · rw [if_pos hh] at h; exact h
  rw [if_neg (by simp [h1])] at h
  have h2 : (numR s (numR s p).2.1).2.2 = 0 := by
    by_cases hh : (numR s (numR s p).2.1).2.2 = 0
    · exact hh
    · rw [if_pos hh] at h; exact h
  rw [if_neg (by simp [h2])] at h
  have h3 : (numR s (numR s (numR s p).2.1).2.1).2.2 = 0 := by
    by_cases hh : (numR s (numR s (numR s p).2.1).2.1).2.2 = 0
    · exact hh
    · rw [if_pos hh] at h; exact h
  rw [if_neg (by simp [h3])] at h
  have h4 : (intsR s (numR s (numR s (numR s p).2.1).2.1).2.1).2.2 = 0 := by
    by_cases hh : (intsR s (numR s (numR s (numR s p).2.1).2.1).2.1).2.2 = 0
    · exact hh
    · rw [if_pos hh] at h; exact h
  rw [if_neg (by simp [h4])] at h
  have h5 : (strsR s (intsR s (numR s (numR s (numR s p).2.1).2.1).2.1).2.1).2.2 = 0 := by
    by_cases hh : (strsR s (intsR s (numR s (numR s (numR s p).2.1).2.1).2.1).2.1).2.2 = 0
    · exact hh
    · rw [if_pos hh] at h; exact h
  rw [if_neg (by simp [h5])] at h
  have p1 := numR_prog h1
  have p2 := numR_prog h2
  have p3 := numR_prog h3
  have p4 := readR_prog h4
  have p5 := readR_prog h5
  have p6 := readR_prog h
  refine ⟨?_, p6.2⟩
  simp only [intsR, strsR] at *
  omega

/-- The leaves from a place on. -/
def getL (s : List UInt8) (p : Nat) (acc : List Leaf) : List Leaf × Int :=
  if p < s.length then
    if (leafR s p).2.2 ≠ 0 then ([], (leafR s p).2.2) else
    if h : (p : Int) < (leafR s p).2.1 ∧ (leafR s p).2.1 ≤ s.length then getL s (leafR s p).2.1.toNat (acc ++ [(leafR s p).1]) else ([], 5)
  else (acc, 0)
termination_by s.length - p
decreasing_by omega
noncomputable def finT (x : List Leaf × Int) : List Leaf × Int := if x.2 ≠ 0 then ([], x.2) else if Table x.1 then (x.1, 0) else ([], 6)
noncomputable def getR (s : List UInt8) : List Leaf × Int := finT (getL s 0 [])
theorem getL_end {s : List UInt8} {p : Nat} {acc : List Leaf} (h : ¬ p < s.length) : getL s p acc = (acc, 0) := by rw [getL, if_neg h]
theorem getL_err {s : List UInt8} {p : Nat} {acc : List Leaf} (h : p < s.length) (h2 : (leafR s p).2.2 ≠ 0) : getL s p acc = ([], (leafR s p).2.2) := by rw [getL, if_pos h, if_pos h2]
theorem getL_go {s : List UInt8} {p : Nat} {acc : List Leaf} (h : p < s.length) (h2 : (leafR s p).2.2 = 0) : getL s p acc = getL s (leafR s p).2.1.toNat (acc ++ [(leafR s p).1]) := by
  rw [getL, if_pos h, if_neg (by simp [h2]), dif_pos (leafR_prog h2)]

/-! ### Slices that were read -/
def slV {α : Type} (f : α → AV) (l : List α) : AV := .slice (tk' l) (l.map f)
theorem tupL_slV {α : Type} {f : α → AV} {x : List α × Int × Int} : tupL f x = .tuple [slV f x.1, .int .i64 x.2.1, .int .i64 x.2.2] := by
  unfold tupL slV tk'
  split
  · rename_i h; rw [h]; rfl
  · rfl
theorem strip_slV {α : Type} {f : α → AV} (h : ∀ x, (f x).strip = f x) {l : List α} : (slV f l).strip = slV f l := by
  unfold slV tk'
  split
  · rename_i h; subst h; simp [AV.strip]
  · rename_i hne
    cases l with
    | nil => exact absurd rfl hne
    | cons x r => simp [AV.strip, strips_leaf h, AV.strips, h x]
theorem noRef_slV {α : Type} {f : α → AV} (h : ∀ x, (f x).noRef = true) {l : List α} : (slV f l).noRef = true := by
  unfold slV; simp only [AV.noRef]; exact noRefs_leaf h
def ownL (x : Leaf) : TLeaf := ⟨x, tk' x.blocks, tk' x.names, tk' x.nodes⟩
theorem leafV_own {x : Leaf} : leafV (ownL x) = .agg [.int .i64 x.num, .int .i64 x.kind, .int .i64 x.size, slV (AV.int .i64) x.blocks, slV AV.str x.names, slV (AV.int .i64) x.nodes] := rfl
theorem strip_own' {x : Leaf} : (leafV (ownL x)).strip = leafV (ownL x) := by
  rw [leafV_own]
  simp only [AV.strip, AV.strips, strip_slV (fun x => strip_int x), strip_slV (fun x => strip_str x)]
theorem noRef_own {x : Leaf} : (leafV (ownL x)).noRef = true := by
  rw [leafV_own]
  simp only [AV.noRef, AV.noRefs, noRef_slV (f := AV.int .i64) (fun x => rfl), noRef_slV (f := AV.str) (fun x => rfl), Bool.and_self]

/-! ### The closures -/
def stepN (s : List UInt8) (p e : Int) : Int × Int × Int := if e ≠ 0 then (0, p, e) else numR s p
def stepI (s : List UInt8) (p e : Int) : List Int × Int × Int := if e ≠ 0 then ([], p, e) else intsR s p
def stepS (s : List UInt8) (p e : Int) : List (List UInt8) × Int × Int := if e ≠ 0 then ([], p, e) else strsR s p
/-- What stands where the closures read. -/
structure St (σ0 s : AST) (tk : Tk) (n : Nat) (str : List UInt8) (at_ e : Int) : Prop where
  g : Gr σ0 s tk n 6
  o0 : s.objs[σ0.objs.length]? = some (.cells (.str str))
  o1 : s.objs[σ0.objs.length + 1]? = some (.cells (.int .i64 at_))
  o2 : s.objs[σ0.objs.length + 2]? = some (.cells (.int .i64 e))
  p : e = 0 → 0 ≤ at_ ∧ at_ ≤ str.length
  l : str.length ≤ 6000
theorem St.step {σ0 s : AST} {tk : Tk} {n : Nat} {str : List UInt8} {p e q f : Int} (h : St σ0 s tk n str p e) (he : e = 0) (hq : f = 0 → p < q ∧ q ≤ str.length) :
    St σ0 ((s.set (σ0.objs.length + 1) (.cells (.int .i64 q))).set (σ0.objs.length + 2) (.cells (.int .i64 f))) tk n str q f := by
  have l1 : σ0.objs.length + 1 < s.objs.length := (List.getElem?_eq_some_iff.1 h.o1).1
  have l2 : σ0.objs.length + 2 < s.objs.length := (List.getElem?_eq_some_iff.1 h.o2).1
  refine ⟨(h.g.set (by omega)).set (by omega), ?_, ?_, ?_, fun hf => ?_, h.l⟩
  · simp only [AST.set]; rw [List.getElem?_set_ne (by omega), List.getElem?_set_ne (by omega)]; exact h.o0
  · simp only [AST.set]; rw [List.getElem?_set_ne (by omega), List.getElem?_set_self (by omega)]
  · simp only [AST.set]; rw [List.getElem?_set_self (by simp; omega)]
  · have := hq hf; have := h.p he; omega

theorem num1_c {s : List UInt8} {e at_ : Int} {n : Nat} {tk : Tk} {σ0 σ : AST} {K : AV → AST → Prop} (hSt : St σ0 σ tk n s at_ e) (hK : ∀ σ', St σ0 σ' tk n s (stepN s at_ e).2.1 (stepN s at_ e).2.2 → K (.int .i64 (stepN s at_ e).1) σ') :
    TCalls Try.prog 35 [.ptr (some (σ0.objs.length + 2, [])), .ptr (some (σ0.objs.length, [])), .ptr (some (σ0.objs.length + 1, []))] σ K := by
  refine tcalls_walk Try.f35 _ [.tmp 3] Try.func35 rfl rfl rfl mixed (Nat.le_of_ble_eq_true rfl) rfl fun hlen => ?_
  have c1 := cellAt_known hSt.o2 []
  have c2 := cellAt_known hSt.o0 []
  have c3 := cellAt_known hSt.o1 []
  have o1 := hSt.o1
  by_cases he : e = 0
  · have hp := hSt.p he
    have h6 := hSt.l
    have e2 : ∀ o, (σ.set (σ0.objs.length + 1) o).objs[σ0.objs.length + 2]? = some (.cells (.int .i64 e)) := fun o => by simp only [AST.set]; rw [List.getElem?_set_ne (by omega)]; exact hSt.o2
    repeat' (first | (simp -dsimp only [↓reduceIte, go_sem, c1, c2, c3, o1, e2, he]) | (refine arr_intro fun _ => ?_) | (refine later_intro ⟨keeps_nil, ?_⟩) | (refine later_intro ⟨keeps_refl, ?_⟩) | (refine both_ways ?_ ?_) | (rw [wrap_i64 (by omega) (by omega)]) | (refine guardV_split (fun h => ?_) (fun h => ?_) <;> (try rw [h]) <;> (try simp at h) <;> (try (exfalso; omega))) | (refine readNumber_c (by omega) (by omega) ?_) | (rw [tupL_slV]))
    have hr : stepN s at_ e = numR s at_ := by rw [stepN, if_neg (by simp [he])]
    rw [hr] at hK
    exact hK _ (hSt.step he (fun h => numR_prog h))
  · repeat' (first | (simp -dsimp only [↓reduceIte, go_sem, c1, c2, c3, o1]) | (refine arr_intro fun _ => ?_) | (refine later_intro ⟨keeps_nil, ?_⟩) | (refine later_intro ⟨keeps_refl, ?_⟩) | (refine both_ways ?_ ?_) | (rw [wrap_i64 (by omega) (by omega)]) | (refine guardV_split (fun h => ?_) (fun h => ?_) <;> (try rw [h]) <;> (try simp at h) <;> (try (exfalso; omega))))
    have hr : stepN s at_ e = (0, at_, e) := by rw [stepN, if_pos he]
    rw [hr] at hK
    exact hK _ hSt

theorem nums1_c {s : List UInt8} {e at_ : Int} {n : Nat} {tk : Tk} {σ0 σ : AST} {K : AV → AST → Prop} (hSt : St σ0 σ tk n s at_ e) (hK : ∀ σ', St σ0 σ' tk n s (stepI s at_ e).2.1 (stepI s at_ e).2.2 → K (slV (AV.int .i64) (stepI s at_ e).1) σ') :
    TCalls Try.prog 36 [.ptr (some (σ0.objs.length + 2, [])), .ptr (some (σ0.objs.length, [])), .ptr (some (σ0.objs.length + 1, []))] σ K := by
  refine tcalls_walk Try.f36 _ [.tmp 3] Try.func36 rfl rfl rfl mixed (Nat.le_of_ble_eq_true rfl) rfl fun hlen => ?_
  have c1 := cellAt_known hSt.o2 []
  have c2 := cellAt_known hSt.o0 []
  have c3 := cellAt_known hSt.o1 []
  have o1 := hSt.o1
  by_cases he : e = 0
  · have hp := hSt.p he
    have h6 := hSt.l
    have e2 : ∀ o, (σ.set (σ0.objs.length + 1) o).objs[σ0.objs.length + 2]? = some (.cells (.int .i64 e)) := fun o => by simp only [AST.set]; rw [List.getElem?_set_ne (by omega)]; exact hSt.o2
    repeat' (first | (simp -dsimp only [↓reduceIte, go_sem, c1, c2, c3, o1, e2, he]) | (refine arr_intro fun _ => ?_) | (refine later_intro ⟨keeps_nil, ?_⟩) | (refine later_intro ⟨keeps_refl, ?_⟩) | (refine both_ways ?_ ?_) | (rw [wrap_i64 (by omega) (by omega)]) | (refine guardV_split (fun h => ?_) (fun h => ?_) <;> (try rw [h]) <;> (try simp at h) <;> (try (exfalso; omega))) | (refine readNumbers_c (by omega) (by omega) ?_) | (rw [tupL_slV]))
    have hr : stepI s at_ e = intsR s at_ := by rw [stepI, if_neg (by simp [he])]
    rw [hr] at hK
    exact hK _ (hSt.step he (fun h => readR_prog h))
  · repeat' (first | (simp -dsimp only [↓reduceIte, go_sem, c1, c2, c3, o1]) | (refine arr_intro fun _ => ?_) | (refine later_intro ⟨keeps_nil, ?_⟩) | (refine later_intro ⟨keeps_refl, ?_⟩) | (refine both_ways ?_ ?_) | (rw [wrap_i64 (by omega) (by omega)]) | (refine guardV_split (fun h => ?_) (fun h => ?_) <;> (try rw [h]) <;> (try simp at h) <;> (try (exfalso; omega))))
    have hr : stepI s at_ e = ([], at_, e) := by rw [stepI, if_pos he]
    rw [hr] at hK
    exact hK _ hSt

theorem strs1_c {s : List UInt8} {e at_ : Int} {n : Nat} {tk : Tk} {σ0 σ : AST} {K : AV → AST → Prop} (hSt : St σ0 σ tk n s at_ e) (hK : ∀ σ', St σ0 σ' tk n s (stepS s at_ e).2.1 (stepS s at_ e).2.2 → K (slV AV.str (stepS s at_ e).1) σ') :
    TCalls Try.prog 38 [.ptr (some (σ0.objs.length + 2, [])), .ptr (some (σ0.objs.length, [])), .ptr (some (σ0.objs.length + 1, []))] σ K := by
  refine tcalls_walk Try.f38 _ [.tmp 3] Try.func38 rfl rfl rfl mixed (Nat.le_of_ble_eq_true rfl) rfl fun hlen => ?_
  have c1 := cellAt_known hSt.o2 []
  have c2 := cellAt_known hSt.o0 []
  have c3 := cellAt_known hSt.o1 []
  have o1 := hSt.o1
  by_cases he : e = 0
  · have hp := hSt.p he
    have h6 := hSt.l
    have e2 : ∀ o, (σ.set (σ0.objs.length + 1) o).objs[σ0.objs.length + 2]? = some (.cells (.int .i64 e)) := fun o => by simp only [AST.set]; rw [List.getElem?_set_ne (by omega)]; exact hSt.o2
    repeat' (first | (simp -dsimp only [↓reduceIte, go_sem, c1, c2, c3, o1, e2, he]) | (refine arr_intro fun _ => ?_) | (refine later_intro ⟨keeps_nil, ?_⟩) | (refine later_intro ⟨keeps_refl, ?_⟩) | (refine both_ways ?_ ?_) | (rw [wrap_i64 (by omega) (by omega)]) | (refine guardV_split (fun h => ?_) (fun h => ?_) <;> (try rw [h]) <;> (try simp at h) <;> (try (exfalso; omega))) | (refine readTexts_c (by omega) (by omega) ?_) | (rw [tupL_slV]))
    have hr : stepS s at_ e = strsR s at_ := by rw [stepS, if_neg (by simp [he])]
    rw [hr] at hK
    exact hK _ (hSt.step he (fun h => readR_prog h))
  · repeat' (first | (simp -dsimp only [↓reduceIte, go_sem, c1, c2, c3, o1]) | (refine arr_intro fun _ => ?_) | (refine later_intro ⟨keeps_nil, ?_⟩) | (refine later_intro ⟨keeps_refl, ?_⟩) | (refine both_ways ?_ ?_) | (rw [wrap_i64 (by omega) (by omega)]) | (refine guardV_split (fun h => ?_) (fun h => ?_) <;> (try rw [h]) <;> (try simp at h) <;> (try (exfalso; omega))))
    have hr : stepS s at_ e = ([], at_, e) := by rw [stepS, if_pos he]
    rw [hr] at hK
    exact hK _ hSt
end Go.Aff.L21

/- Layer 21, walked: a table read. -/
namespace Go.Aff.L21
open Go.Proofs Go.Aff Go.Aff.L01 Classical
set_option linter.unusedVariables false
set_option linter.unusedSimpArgs false
attribute [local go_sem] push_app app_app length_app cellAt_app cellAt_app0 set_app set_app0 objs_app objs_app0 List.cons_append List.nil_append List.length_cons List.length_nil List.getElem?_cons_zero List.getElem?_cons_succ List.set_cons_zero List.set_cons_succ
attribute [-go_sem] cellAt_new
attribute [local go_sem] Try.underlying3 fits4 Try.underlying4 fits5 Try.underlying5 Try.underlying9 fits22 Try.underlying22 fits23 Try.underlying23 fits29 Try.underlying29 fits43 Try.underlying43 fits44 Try.underlying44 fits46 p46_0 p46_1 p46_2 p46_3 p46_4 p46_5 Try.underlying46 fits64 p64_0 p64_1 Try.underlying64
attribute [local go_sem] fits3 fits9
attribute [local go_sem ↓] blockQ_exit2
attribute [local go_sem] List.length_map
attribute [-simp] List.length_flatMap
attribute [local go_sem] zt46 zero46 size_leaf agg_leaf shape_leafV known_leaf tup3 built46'

theorem zt3 : ZeroOf Try.prog 3 (.int .i64 0) = True := by simp [zeroOf3]
theorem zt23 : ZeroOf Try.prog 23 (.int .i64 0) = True := by simp [zeroOf23]
theorem zt64 : ZeroOf Try.prog 64 (.agg [.int .i64 0, .int .i64 0]) = True := by simp [zeroOf64]
theorem built64' : Built Try.prog 64 = True := by simp [built64]
attribute [local go_sem] zt3 zero3 zt23 zero23 zt64 zero64 built64'
theorem size_slV {α : Type} {f : α → AV} {l : List α} : (slV f l).size = 1 := by simp [slV, AV.size]
theorem isAgg_slV {α : Type} {f : α → AV} {l : List α} : (slV f l).isAgg = false := rfl
theorem shape_slV {α : Type} {f : α → AV} {l : List α} : (slV f l).shape = .leaf := by simp [slV, AV.shape]
theorem known_slV {α : Type} {f : α → AV} {l : List α} : (slV f l).known = true := rfl
attribute [local go_sem] size_slV isAgg_slV shape_slV known_slV
/-- The six steps, one behind the other. -/
def leaf6 (s : List UInt8) (p e : Int) : Leaf × Int × Int :=
  let a := stepN s p e; let b := stepN s a.2.1 a.2.2; let c := stepN s b.2.1 b.2.2; let d := stepI s c.2.1 c.2.2; let f := stepS s d.2.1 d.2.2; let g := stepI s f.2.1 f.2.2
  (⟨a.1, b.1, c.1, d.1, f.1, g.1⟩, g.2.1, g.2.2)
theorem leaf6_leafR {s : List UInt8} {p : Int} : (leaf6 s p 0).2.2 = (leafR s p).2.2 ∧ ((leafR s p).2.2 = 0 → leaf6 s p 0 = leafR s p) := by
  simp only [leaf6, leafR]
  have e0 : stepN s p 0 = numR s p := by simp [stepN]
  rw [e0]
  by_cases h1 : (numR s p).2.2 = 0
  · rw [h1]
    have e1 : ∀ q, stepN s q 0 = numR s q := fun q => by simp [stepN]
    rw [e1]
    generalize (numR s p).2.1 = q
    by_cases h2 : (numR s q).2.2 = 0
    · rw [h2, e1]
      generalize (numR s q).2.1 = r
      by_cases h3 : (numR s r).2.2 = 0
      · rw [h3]
        have e3 : ∀ q, stepI s q 0 = intsR s q := fun q => by simp [stepI]
        rw [e3]
        generalize (numR s r).2.1 = t
        by_cases h4 : (intsR s t).2.2 = 0
        · rw [h4]
          have e4 : ∀ q, stepS s q 0 = strsR s q := fun q => by simp [stepS]
          rw [e4]
          generalize (intsR s t).2.1 = u
          by_cases h5 : (strsR s u).2.2 = 0
          · rw [h5, e3]; simp
          · simp [stepI, h5]
        · simp [stepI, stepS, h4]
      · simp [stepI, stepS, h3]
    · simp [stepI, stepS, stepN, h2]
  · simp [stepI, stepS, stepN, h1]

theorem St.app {σ0 s : AST} {tk : Tk} {n : Nat} {str : List UInt8} {p e : Int} {l : List AObj} (h : St σ0 s tk n str p e) : St σ0 (s.app l) tk n str p e :=
  ⟨h.g.app, objs_known_app h.o0 l, objs_known_app h.o1 l, objs_known_app h.o2 l, h.p, h.l⟩
theorem St.grow {σ0 s : AST} {tk : Tk} {n m : Nat} {str : List UInt8} {p e : Int} (h : St σ0 s tk n str p e) : St σ0 (growS s tk m 6) (growT s tk) m str p e :=
  ⟨h.g.grow, by rw [growS_objs]; exact h.o0, by rw [growS_objs]; exact h.o1, by rw [growS_objs]; exact h.o2, h.p, h.l⟩
theorem tkF_grow {α : Type} {l : List α} {x : α} {s : AST} {tk : Tk} (h : tkF l tk) : tkF (l ++ [x]) (growT s tk) := by
  right
  refine ⟨by simp, ?_⟩
  rcases h with ⟨_, rfl⟩ | ⟨_, k, rfl⟩
  · exact ⟨_, rfl⟩
  · exact ⟨k, rfl⟩
theorem map_own {l : List Leaf} : (l.map ownL).map (·.x) = l := by
  induction l with
  | nil => rfl
  | cons x r ih => simp only [List.map_cons, ih]; rfl
theorem map_own2 {l : List Leaf} : l.map ((fun x : TLeaf => x.x) ∘ ownL) = l := by rw [← List.map_map]; exact map_own
attribute [local simp] map_own2
theorem size_own {l : List Leaf} : ∀ v ∈ (l.map ownL).map leafV, v.size = 6 := by
  intro v hv; obtain ⟨y, _, rfl⟩ := List.mem_map.1 hv; exact size_leaf
theorem slV_leaves {l : List Leaf} : (slV leafV (l.map ownL)).noRef = true ∧ (slV leafV (l.map ownL)).strip = slV leafV (l.map ownL) := by
  refine ⟨?_, ?_⟩
  · unfold slV; simp only [AV.noRef]
    induction l with
    | nil => rfl
    | cons x r ih => simp only [List.map_cons, AV.noRefs, noRef_own, ih, Bool.and_self]
  · have e : AV.strips ((l.map ownL).map leafV) = (l.map ownL).map leafV := by
      induction l with
      | nil => simp [AV.strips]
      | cons x r ih => simp only [List.map_cons, AV.strips, strip_own', ih]
    unfold slV tk'
    split
    · rename_i h; rw [h]; simp [AV.strip]
    · rename_i hne
      cases l with
      | nil => exact absurd rfl hne
      | cons x r => simp only [AV.strip, e]
theorem strip_tkF' {l : List Leaf} {tk : Tk} (h : tkF l tk) : (AV.slice tk ((l.map ownL).map leafV)).strip = slV leafV (l.map ownL) := by
  have e : AV.strips ((l.map ownL).map leafV) = (l.map ownL).map leafV := by
    induction l with
    | nil => simp [AV.strips]
    | cons x r ih => 
      have := slV_leaves (l := r)
      clear h
      have e2 : AV.strips ((r.map ownL).map leafV) = (r.map ownL).map leafV := by
        clear ih this
        induction r with
        | nil => simp [AV.strips]
        | cons y t ih => simp only [List.map_cons, AV.strips, strip_own', ih]
      simp only [List.map_cons, AV.strips, strip_own', e2]
  rcases h with ⟨rfl, rfl⟩ | ⟨hne, k, rfl⟩
  · simp [slV, tk', AV.strip]
  · unfold slV tk'
    rw [if_neg (by simpa using hne)]
    simp only [AV.strip, e]
theorem noRef_tk {l : List Leaf} : AV.noRefs ((l.map ownL).map leafV) = true := by
  induction l with
  | nil => rfl
  | cons x r ih => simp only [List.map_cons, AV.noRefs, noRef_own, ih, Bool.and_self]
theorem Get_c {s : List UInt8} (hs : s.length ≤ 6000) {σ : AST} {K : AV → AST → Prop} (hK : K (.tuple [slV leafV ((getR s).1.map ownL), .int .i64 (getR s).2]) σ) : TCalls Try.prog 19 [.str s] σ K := by
  refine TCalls.drop ?_
  refine tcalls_walk Try.f19 _ [.tmp 2, .tmp 3] Try.func19 rfl rfl rfl mixed (Nat.le_of_ble_eq_true rfl) rfl fun hlen => ?_
  repeat' (first | (simp -dsimp only [↓reduceIte, go_sem]) | (refine arr_intro fun _ => ?_) | (refine later_intro ⟨keeps_nil, ?_⟩) | (refine later_intro ⟨keeps_refl, ?_⟩) | (refine both_ways ?_ ?_) | (rw [wrap_i64 (by omega) (by omega)]) | (refine guardV_split (fun h => ?_) (fun h => ?_) <;> (try rw [h]) <;> (try simp at h) <;> (try (exfalso; omega))) | (refine side_later (by simp [go_sem]) ?_))
  refine awp_rounds (fun (x : List Leaf × Nat × Int × Int) τ s' => ∃ tk, St σ s' tk x.1.length s x.2.2.1 x.2.2.2 ∧ tkF x.1 tk ∧ x.1.length + x.2.1 ≤ s.length + 1 ∧
      ((x.2.2.2 = 0 ∧ x.2.2.1 + x.2.1 = s.length + 1 ∧ getR s = finT (getL s x.2.2.1.toNat x.1)) ∨ (x.2.2.2 ≠ 0 ∧ x.2.1 = 0 ∧ getR s = ([], x.2.2.2))) ∧
      τ 1 = .ptr (some (σ.objs.length, [])) ∧ τ 4 = .slice tk ((x.1.map ownL).map leafV) ∧ τ 5 = .ptr (some (σ.objs.length + 1, [])) ∧ τ 6 = .ptr (some (σ.objs.length + 2, [])) ∧
      τ 7 = .fn (.func 35) [] [.ptr (some (σ.objs.length + 2, [])), .ptr (some (σ.objs.length, [])), .ptr (some (σ.objs.length + 1, []))] ∧
      τ 8 = .fn (.func 36) [] [.ptr (some (σ.objs.length + 2, [])), .ptr (some (σ.objs.length, [])), .ptr (some (σ.objs.length + 1, []))] ∧
      τ 9 = .fn (.func 38) [] [.ptr (some (σ.objs.length + 2, [])), .ptr (some (σ.objs.length, [])), .ptr (some (σ.objs.length + 1, []))]) (fun x => x.2.1) ([], s.length + 1, 0, 0) ?_ ?_
  · refine ⟨.full, ⟨Gr.start.app, by rw [objs_app0]; rfl, by rw [objs_app]; rfl, by rw [objs_app]; rfl, fun _ => by simp, hs⟩, .inl ⟨rfl, rfl⟩, by simp, .inl ⟨rfl, by simp, rfl⟩, ?_, ?_, ?_, ?_, ?_, ?_, ?_⟩ <;> (try simp only [go_sem]) <;> rfl
  · rintro ⟨acc, m, p, e⟩ τ s' ⟨tk, hSt, htk, hm, hh, t1, t4, t5, t6, t7, t8, t9⟩
    dsimp only at hSt htk hm hh t4
    have c0 := cellAt_known hSt.o0 []
    have c1 := cellAt_known hSt.o1 []
    have c2 := cellAt_known hSt.o2 []
    repeat' (first | (simp -dsimp only [↓reduceIte, go_sem, t1, t4, t5, t6, t7, t8, t9, c0, c1, c2]) | (refine arr_intro fun _ => ?_) | (refine later_intro ⟨keeps_nil, ?_⟩) | (refine later_intro ⟨keeps_refl, ?_⟩) | (refine both_ways ?_ ?_) | (rw [wrap_i64 (by omega) (by omega)]) | (refine guardV_split (fun h => ?_) (fun h => ?_) <;> (try rw [h]) <;> (try simp at h) <;> (try (exfalso; omega))) | (refine awp_drawS (id := 10) [0, 1, 2] (by kernel_rfl) ?_) | (refine table_c (l := acc.map ownL) ?_))
    · have he : e = 0 := by assumption
      obtain ⟨_, hpm, hget⟩ := hh.resolve_right (fun h => h.1 he)
      have hlt : p < s.length := by assumption
      have hpp := hSt.p he
      refine num1_c hSt fun s1 h1 => ?_
      generalize hA : stepN s p e = A at h1 ⊢
      simp -dsimp only [↓reduceIte, go_sem, t1, t4, t5, t6, t7, t8, t9]
      refine num1_c h1 fun s2 h2 => ?_
      generalize hB : stepN s A.2.1 A.2.2 = B at h2 ⊢
      simp -dsimp only [↓reduceIte, go_sem, t1, t4, t5, t6, t7, t8, t9]
      refine num1_c h2 fun s3 h3 => ?_
      generalize hC : stepN s B.2.1 B.2.2 = C at h3 ⊢
      simp -dsimp only [↓reduceIte, go_sem, t1, t4, t5, t6, t7, t8, t9]
      refine nums1_c h3 fun s4 h4 => ?_
      generalize hD : stepI s C.2.1 C.2.2 = D at h4 ⊢
      simp -dsimp only [↓reduceIte, go_sem, t1, t4, t5, t6, t7, t8, t9]
      refine strs1_c h4 fun s5 h5 => ?_
      generalize hE : stepS s D.2.1 D.2.2 = E at h5 ⊢
      simp -dsimp only [↓reduceIte, go_sem, t1, t4, t5, t6, t7, t8, t9]
      refine nums1_c h5 fun s6 h6 => ?_
      generalize hF : stepI s E.2.1 E.2.2 = F at h6 ⊢
      have hleaf : leaf6 s p e = (⟨A.1, B.1, C.1, D.1, E.1, F.1⟩, F.2.1, F.2.2) := by simp only [leaf6, hA, hB, hC, hD, hE, hF]
      repeat' (first | (simp -dsimp only [↓reduceIte, go_sem, t1, t4, t5, t6, t7, t8, t9]) | (refine arr_intro fun _ => ?_) | (refine later_intro ⟨keeps_nil, ?_⟩) | (refine later_intro ⟨keeps_refl, ?_⟩) | (refine both_ways ?_ ?_) | (rw [wrap_i64 (by omega) (by omega)]) | (refine guardV_split (fun h => ?_) (fun h => ?_) <;> (try rw [h]) <;> (try simp at h) <;> (try (exfalso; omega))) | (refine build_slice E22 rfl (by decide) (by intro v hv; simp at hv; rcases hv with rfl; exact ⟨by simp only [go_sem], rfl⟩) ?_))
      refine append_slice E22 (by decide) (tk := tk) (by rw [canApp_app]; simpa using h6.g.c) (by intro v hv; simp at hv; subst hv; simp only [go_sem]) size_own (by simp; omega) (by simp [maxL]; omega) ?_
      repeat' (first | (simp -dsimp only [↓reduceIte, go_sem, t1, t4, t5, t6, t7, t8, t9]) | (refine arr_intro fun _ => ?_) | (refine later_intro ⟨keeps_nil, ?_⟩) | (refine later_intro ⟨keeps_refl, ?_⟩) | (refine both_ways ?_ ?_) | (rw [wrap_i64 (by omega) (by omega)]) | (refine guardV_split (fun h => ?_) (fun h => ?_) <;> (try rw [h]) <;> (try simp at h) <;> (try (exfalso; omega))))
      subst he
      obtain ⟨r1, r2⟩ := leaf6_leafR (s := s) (p := p)
      rw [hleaf] at r1 r2
      dsimp only at r1 r2
      have hp0 : p.toNat < s.length := by omega
      have hpc : ((p.toNat : Nat) : Int) = p := by omega
      by_cases hf : F.2.2 = 0
      · rw [hf] at r1
        have r2 := r2 r1.symm
        have hq := leafR_prog r1.symm
        have hgo := getL_go (acc := acc) hp0 (by rw [hpc]; exact r1.symm)
        rw [hpc, ← r2] at hgo
        rw [← r2] at hq
        dsimp only at hgo hq
        refine later_intro ⟨(acc ++ [⟨A.1, B.1, C.1, D.1, E.1, F.1⟩], (s.length + 1 - F.2.1.toNat), F.2.1, F.2.2), by dsimp only; omega, growT s6 tk, ?_, tkF_grow htk, by dsimp only; simp; omega, .inl ⟨hf, by dsimp only; omega, by rw [hget, hgo]⟩, ?_, ?_, ?_, ?_, ?_, ?_, ?_⟩ <;> (try simp only [go_sem, t1, t4, t5, t6, t7, t8, t9]) <;> (try rfl)
        · have := h6.app (l := [AObj.cells (.agg [.int .i64 A.1, .int .i64 B.1, .int .i64 C.1, slV (AV.int .i64) D.1, slV AV.str E.1, slV (AV.int .i64) F.1])])
          simpa [growT_app] using this.grow (m := acc.length + 1)
        · simp [leafV_own, growT_app]
      · rw [r1] at hf
        have herr := getL_err (acc := acc) hp0 (by rw [hpc]; exact hf)
        rw [hpc] at herr
        refine later_intro ⟨(acc ++ [⟨A.1, B.1, C.1, D.1, E.1, F.1⟩], 0, F.2.1, F.2.2), by dsimp only; omega, growT s6 tk, ?_, tkF_grow htk, by dsimp only; simp; omega, .inr ⟨by rw [r1]; exact hf, rfl, by rw [hget, herr, finT]; dsimp only; rw [if_pos hf, r1]⟩, ?_, ?_, ?_, ?_, ?_, ?_, ?_⟩ <;> (try simp only [go_sem, t1, t4, t5, t6, t7, t8, t9]) <;> (try rfl)
        · have := h6.app (l := [AObj.cells (.agg [.int .i64 A.1, .int .i64 B.1, .int .i64 C.1, slV (AV.int .i64) D.1, slV AV.str E.1, slV (AV.int .i64) F.1])])
          simpa [growT_app] using this.grow (m := acc.length + 1)
        · simp [leafV_own, growT_app]
    · obtain ⟨_, _, hget⟩ := hh.resolve_left (fun h => by have := h.1; omega)
      rw [hget] at hK
      exact ⟨hSt.g.x, rfl, hK⟩
    · obtain ⟨_, _, hget⟩ := hh.resolve_left (fun h => by have := h.1; omega)
      rw [hget] at hK
      exact ⟨hSt.g.x, rfl, hK⟩
    · obtain ⟨he, hpm, hget⟩ := hh.resolve_right (fun h => h.1 (by assumption))
      have hpp := hSt.p he
      rw [getL_end (by omega)] at hget
      rw [hget, finT] at hK
      have hT : ¬ Table acc := by assumption
      rw [if_neg (by simp), if_neg hT] at hK
      exact ⟨hSt.g.x, rfl, hK⟩
    · obtain ⟨he, hpm, hget⟩ := hh.resolve_right (fun h => h.1 (by assumption))
      have hpp := hSt.p he
      rw [getL_end (by omega)] at hget
      rw [hget, finT] at hK
      have hT : Table acc := by assumption
      rw [if_neg (by simp), if_pos hT] at hK
      refine ⟨hSt.g.x, ?_, ?_⟩
      · simp only [AV.noRef, AV.noRefs, noRef_tk (l := acc), Bool.and_true]
      · simp only [AV.strip, AV.strips]
        rw [show (AV.slice tk ((acc.map ownL).map leafV)).strip = _ from strip_tkF' htk]
        exact hK
end Go.Aff.L21

