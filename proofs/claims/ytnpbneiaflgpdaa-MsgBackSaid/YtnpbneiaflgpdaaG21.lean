import Derived.Test.YtnpbneiaflgpdaaG18
import Derived.Test.YtnpbneiaflgpdaaG20
import Derived.Test.YtnpbneiaflgpdaaG19
import Derived.RangeFuncLeaves

set_option linter.unusedSimpArgs false
set_option linter.unusedVariables false

/- Layer 1, walked: LayBack. -/
namespace Go.Aff.L01
open Go.Proofs Go.Aff
set_option linter.unusedVariables false
set_option maxRecDepth 20000
set_option linter.unusedSimpArgs false
theorem fits25 {v : AV} : fits Try.prog 31 v = (v.isAgg = false ∧ v.size = 1) := fits_leaf (by kernel_rfl) (by kernel_rfl)
attribute [local go_sem] Try.underlying3 Try.underlying4 Try.underlying5 Try.underlying9 Try.underlying52 Try.underlying120 Try.underlying34 Try.underlying31 fits3 fits9 fits25

theorem text_back {x y t : List UInt8} (ht : ¬ 16384 < t.length) : textP (x ++ (textS t ++ y)) x.length = (t, ((x.length + (textS t).length : Nat) : Int), 0) := by
  have c58 : isD 58 = false := by decide
  have e : x ++ (textS t ++ y) = x ++ (dg t.length ++ 58 :: (t ++ y)) := by simp [textS]
  have hd := dend_laid (x := x) (y := t ++ y) (c := 58) t.length c58
  have hg := digs_laid (x := x) (y := t ++ y) (c := 58) t.length c58
  have hsh := shape_laid (x := x) (y := t ++ y) (c := 58) t.length c58
  rw [show (58 : UInt8).toNat = 58 from rfl] at hsh
  rw [textP, e, hd, hg, val_dg, if_neg (not_not_intro hsh), if_neg ht, if_neg (by simp; omega)]
  have e2 : x ++ (dg t.length ++ 58 :: (t ++ y)) = (x ++ dg t.length ++ [58]) ++ (t ++ y) := by simp
  have hl : (x ++ dg t.length ++ [(58 : UInt8)]).length = x.length + (dg t.length).length + 1 := by simp; omega
  rw [e2]
  simp only [Prod.mk.injEq, and_true]
  constructor
  · rw [show x.length + (dg t.length).length + 1 + t.length = (x ++ dg t.length ++ [(58 : UInt8)] ++ t).length by simp; omega, ← List.append_assoc, List.take_left, ← hl, List.drop_left]
  · simp [textS]; omega

theorem readL_back {α : Type} {f : α → List UInt8} {one : Nat → α × Int × Int} {S y : List UInt8} {p : α → Prop}
    (hone : ∀ (u v : List UInt8) (a : α), p a → S = u ++ (f a ++ v) → (∃ b r, f a = b :: r ∧ b.toNat ≠ 41) ∧ one u.length = (a, ((u.length + (f a).length : Nat) : Int), 0)) :
    ∀ (l : List α) (acc : List α) (u : List UInt8), (∀ a ∈ l, p a) → S = u ++ (l.flatMap f ++ 41 :: y) → acc.length + l.length ≤ 512 → readL one S u.length acc = (acc ++ l, ((u.length + (l.flatMap f).length + 1 : Nat) : Int), 0)
  | [], acc, u, hp, hS, hl => by
    rw [readL, if_neg (by rw [hS]; simp), if_pos (by rw [hS]; simp only [List.flatMap_nil, List.nil_append]; rw [bAt_left]; rfl)]
    simp
  | a :: r, acc, u, hp, hS, hl => by
    have hS2 : S = u ++ (f a ++ (r.flatMap f ++ 41 :: y)) := by rw [hS]; simp
    obtain ⟨⟨b, t, hb, h41⟩, h1⟩ := hone u _ a (hp a (by simp)) hS2
    have hbt : bAt S u.length = b.toNat := by rw [hS2, hb, List.cons_append, bAt_left]
    have hlen : u.length + (f a).length ≤ S.length := by rw [hS2]; simp
    have hpos : 0 < (f a).length := by rw [hb]; simp
    simp only [List.length_cons] at hl
    rw [readL, if_neg (by rw [hS2, hb]; simp), if_neg (by rw [hbt]; exact h41), if_neg (by omega), h1]
    dsimp only
    rw [if_neg (by simp), dif_pos ⟨by omega, by omega⟩]
    have e : (((u.length + (f a).length : Nat) : Int)).toNat = (u ++ f a).length := by rw [Int.toNat_natCast, List.length_append]
    rw [e, readL_back (y := y) hone r (acc ++ [a]) (u ++ f a) (fun x hx => hp x (by simp [hx])) (by rw [hS2]; simp) (by simp; omega)]
    simp; omega

theorem list_back {α : Type} {f : α → List UInt8} {one : List UInt8 → Nat → α × Int × Int} {x y : List UInt8} {l : List α} {p : α → Prop} (hp : ∀ a ∈ l, p a) (hl : ¬ 512 < l.length)
    (hone : ∀ (u v : List UInt8) (a : α), p a → (∃ b r, f a = b :: r ∧ b.toNat ≠ 41) ∧ one (u ++ (f a ++ v)) u.length = (a, ((u.length + (f a).length : Nat) : Int), 0)) :
    readR (one (x ++ (laidAll f l ++ y))) (x ++ (laidAll f l ++ y)) x.length = (l, ((x.length + (laidAll f l).length : Nat) : Int), 0) := by
  have e : x ++ (laidAll f l ++ y) = (x ++ [40]) ++ (l.flatMap f ++ 41 :: y) := by simp [laidAll, part]
  rw [readR, if_neg (by simp; omega), if_neg (by simp [laidAll, part]), if_neg (by
    rw [show x ++ (laidAll f l ++ y) = x ++ 40 :: (l.flatMap f ++ 41 :: y) by simp [laidAll, part]]
    simp only [Int.toNat_natCast]; rw [bAt_left]; simp)]
  have h := readL_back (f := f) (one := one (x ++ (laidAll f l ++ y))) (S := x ++ (laidAll f l ++ y)) (y := y) (p := p) (fun u v a ha hS => by rw [hS]; exact hone u v a ha) l [] (x ++ [40]) hp e (by simp; omega)
  rw [show (x ++ [(40 : UInt8)]).length = (x.length : Int).toNat + 1 by simp] at h
  rw [h]
  simp [laidAll, part]; omega

theorem numS_first (n : Int) : ∃ b r, numS n = b :: r ∧ b.toNat ≠ 41 := by
  unfold numS
  split
  · exact ⟨45, _, rfl, by decide⟩
  · obtain ⟨b, r, hb⟩ := List.exists_cons_of_ne_nil (dg_ne (n := n.natAbs))
    have := dg_isD n.natAbs b (by rw [hb]; simp)
    simp [isD] at this
    exact ⟨b, r ++ [59], by rw [hb]; rfl, by omega⟩
theorem textS_first (t : List UInt8) : ∃ b r, textS t = b :: r ∧ b.toNat ≠ 41 := by
  unfold textS
  obtain ⟨b, r, hb⟩ := List.exists_cons_of_ne_nil (dg_ne (n := t.length))
  have := dg_isD t.length b (by rw [hb]; simp)
  simp [isD] at this
  exact ⟨b, r ++ [58] ++ t, by rw [hb]; rfl, by omega⟩

theorem ints_back {x y : List UInt8} {l : List Int} (h : ∀ n ∈ l, -9223372036854775808 ≤ n ∧ n ≤ 9223372036854775807) (hl : ¬ 512 < l.length) :
    readR (numP (x ++ (laidAll numS l ++ y))) (x ++ (laidAll numS l ++ y)) x.length = (l, ((x.length + (laidAll numS l).length : Nat) : Int), 0) :=
  list_back (p := fun n => -9223372036854775808 ≤ n ∧ n ≤ 9223372036854775807) h hl fun u v a ha => ⟨numS_first a, num_back ha.1 ha.2⟩
theorem texts_back {x y : List UInt8} {l : List (List UInt8)} (h : ∀ t ∈ l, ¬ 16384 < t.length) (hl : ¬ 512 < l.length) :
    readR (textP (x ++ (laidAll textS l ++ y))) (x ++ (laidAll textS l ++ y)) x.length = (l, ((x.length + (laidAll textS l).length : Nat) : Int), 0) :=
  list_back (p := fun t => ¬ 16384 < t.length) h hl fun u v a ha => ⟨textS_first a, text_back ha⟩

end Go.Aff.L01

/- A range over a function: the rounds, the statement, the function that holds it. -/
namespace Go.Aff
set_option linter.unusedVariables false
set_option linter.unusedSimpArgs false

variable {g g' : G} {w w' : World} {σ σ' : AST} {P : Program}

/-- The record of a loop. -/
def rec (fn : FuncId) (tm : Array Value) (ps : Array Tmp) (assign body : Code) (D : Nat) (st : LoopState) (pe : Option Code) : Obj :=
  .loop { state := st, pending := pe, fn, tmps := tm, params := ps, assign, body, defers := D }

/-- The places of a round: those of the loop's beginning, with yield's arguments. -/
def envR (vs : List AV) (ps : List Tmp) (args : List AV) : Env := (ps.zip args).foldl (fun τ p => τ.put p.1 p.2) (env0 vs)

theorem relE_zip : ∀ {ps : List Tmp} {args : List AV} {xs : List Value} {τ : Env} {tm : Array Value}, relE g w τ tm → (∀ p ∈ ps, p < tm.size) → relA g w args xs →
    relE g w ((ps.zip args).foldl (fun τ p => τ.put p.1 p.2) τ) ((ps.zip xs).foldl (fun t p => t.setIfInBounds p.1 p.2) tm) ∧ ((ps.zip xs).foldl (fun t p => t.setIfInBounds p.1 p.2) tm).size = tm.size
  | [], _, _, _, _, h, _, _ => by simp; exact h
  | p :: ps, [], [], _, _, h, _, _ => by simp; exact h
  | p :: ps, [], x :: xs, _, _, h, _, ha => by simp [relA] at ha
  | p :: ps, v :: vs, [], _, _, h, _, ha => by simp [relA] at ha
  | p :: ps, v :: vs, x :: xs, τ, tm, h, hp, ha => by
    simp only [List.zip_cons_cons, List.foldl_cons]
    have h1 := relE_put (a := { tmps := tm, defers := [] }) (d := some p) h (fun k hk => by cases hk; exact hp p (by simp)) (ha.2 0 v x rfl rfl)
    simp only [Env.putO, Act.put] at h1
    have h2 := relE_zip (ps := ps) (args := vs) (xs := xs) h1 (fun q hq => by simp; exact hp q (by simp [hq])) ⟨by have := ha.1; simp at this; exact this, fun i v x hv hx => ha.2 (i + 1) v x hv hx⟩
    exact ⟨h2.1, by rw [h2.2]; simp⟩

/-- How a round is left. -/
def roundQ (il l : Nat) (vs : List AV) (xs : List Value) (R : LoopState → Option Code → Obj) (K : AV → AST → Prop) : Exit → Env → AST → Prop := fun e τ σ =>
  σ.objs[il]? = some (.pin l (R .busy none) vs xs) ∧ match e with
  | .normal => K (.bool true) (σ.set il (.pin l (R .ready none) vs xs))
  | .ret => K (.bool false) (σ.set il (.pin l (R .done (some .ret)) vs xs))
  | .exit id => K (.bool false) (σ.set il (.pin l (R .done (some (.exit id))) vs xs))
  | .goto t => K (.bool false) (σ.set il (.pin l (R .done (some (.goto t))) vs xs))
  | _ => False

theorem ycalls_of (hm : P.follows .mixedOrders = true) {fn : FuncId} {tm : Array Value} {ps : Array Tmp} {assign body : Code} {D l il : Nat} {vs args : List AV} {K : AV → AST → Prop}
    (hσ : σ.objs[il]? = some (.pin l (rec fn tm ps assign body D .ready none) vs tm.toList)) (hps : args.length = ps.size) (hp : ∀ p ∈ ps.toList, p < tm.size)
    (hvl : vs.length ≤ tm.size) (hd1 : dstOk tm.size assign = true) (hd2 : dstOk tm.size body = true)
    (h : awp P assign (thenQ (fun τ σ1 => σ1.objs[il]? = some (.pin l (rec fn tm ps assign body D .ready none) vs tm.toList) ∧
      awp P body (roundQ il l vs tm.toList (rec fn tm ps assign body D) K) τ (σ1.set il (.pin l (rec fn tm ps assign body D .busy none) vs tm.toList))) (fun _ _ _ => False)) (envR vs ps.toList args) σ) :
    YCalls P l args σ K := by
  intro g w xs hI hA
  obtain ⟨hl, hr⟩ := inv_pin_heap hI hσ
  have hxs : xs.size = ps.size := by have := hA.1; simp at this; omega
  refine ⟨fn, _, assign, body, run_yield hl hxs, roundIn_of_wpIn trivial ?_⟩
  dsimp only
  have h0 : relE g w (env0 vs) tm := by
    intro t
    unfold env0
    rw [List.getD_eq_getElem?_getD]
    cases hv : vs[t]? with
    | none => exact .inl rfl
    | some v =>
      by_cases ht : t < tm.size
      · have hx : tm.toList[t]? = some tm[t] := by simp [ht]
        rcases hr t v _ hv hx with rfl | h
        · exact .inl rfl
        · simp only [Option.getD_some, Array.getD, ht, dif_pos]; exact .inr (.inr h)
      · have := (List.getElem?_eq_some_iff.1 hv).1
        omega
  have htm : (ps.zip xs).foldl (fun tmps (t, a) => tmps.setIfInBounds t a) tm = (ps.toList.zip xs.toList).foldl (fun t p => t.setIfInBounds p.1 p.2) tm := by
    rw [← Array.foldl_toList, Array.toList_zip]
  rw [htm]
  obtain ⟨hz, hzs⟩ := relE_zip (ps := ps.toList) h0 hp hA
  have s1 := awp_sound (r0 := some l) (n := tm.size) hm assign (a := { tmps := (ps.toList.zip xs.toList).foldl (fun t p => t.setIfInBounds p.1 p.2) tm, defers := [] }) hd1 h hI hz hzs
  refine wpIn_mono s1 ?_
  rintro e a1 w1 ⟨g1, τ1, σ1, hE1, hI1, hr1, hn1, hds1, hq1⟩
  cases e with
  | normal =>
    obtain ⟨hs1, hb⟩ := hq1
    obtain ⟨hl1, hE2, hI2⟩ := inv_pin (o' := rec fn tm ps assign body D .busy none) hI1 hs1
    refine ⟨_, run_beginRound hl1 rfl, ?_⟩
    have s2 := awp_sound (r0 := some l) (n := tm.size) hm body hd2 hb hI2 (relE_mono hE2 hr1) hn1
    refine wpIn_mono s2 ?_
    rintro e a3 w3 ⟨g3, τ3, σ3, hE3, hI3, hr3, hn3, hds3, hs3, hq3⟩
    have hEE := hE1.trans (hE2.trans hE3)
    have fin : ∀ (jump : Option Code) (st : LoopState), st = (if jump.isNone then .ready else .done) → K (.bool jump.isNone) (σ3.set il (.pin l (rec fn tm ps assign body D st jump) vs tm.toList)) →
        ∃ v w', (Instr.endRound l jump).run P w3 = .ok v w' ∧ ∃ x g' v' σ', Ending.returned v = .returned x ∧ Ev g w g' w' ∧ Inv g' σ' w' ∧ relV g' w' v' x ∧ K v' σ' := by
      intro jump st hst hk
      obtain ⟨hl3, hE4, hI4⟩ := inv_pin (o' := rec fn tm ps assign body D st jump) hI3 hs3
      refine ⟨_, _, run_endRound jump hl3, _, g3, .bool jump.isNone, _, rfl, hEE.trans ?_, ?_, relV_mkBool _, hk⟩
      · rw [← hst]; exact hE4
      · rw [← hst]; exact hI4
    cases e with
    | normal => exact fin none .ready rfl hq3
    | ret => exact fin (some .ret) .done rfl hq3
    | exit id => exact fin (some (.exit id)) .done rfl hq3
    | goto t => exact fin (some (.goto t)) .done rfl hq3
    | panic ch => exact hq3.elim
    | outgrown => exact hq3.elim
  | exit id => exact hq1.elim
  | goto l => exact hq1.elim
  | ret => exact hq1.elim
  | panic ch => exact hq1.elim
  | outgrown => exact hq1.elim

/-! ### Code with marks -/
def LiftX (n : Nat) (g0 : G) (w0 : World) (Q : Exit → List Deferred → Env → AST → Prop) : Exit → Act → World → Prop := fun e a w =>
  ∃ g τ σ, Ev g0 w0 g w ∧ Inv g σ w ∧ relE g w τ a.tmps ∧ a.tmps.size = n ∧ Q e a.defers τ σ
def wpX (P : Program) (n : Nat) (c : Code) (Q : Exit → List Deferred → Env → AST → Prop) (ds : List Deferred) (τ : Env) (σ : AST) : Prop :=
  ∀ (g : G) (w : World) (a : Act), Inv g σ w → relE g w τ a.tmps → a.tmps.size = n → a.defers = ds → c.wpIn (FR none) 0 P (LiftX n g w Q) a w
theorem LiftX.trans {n : Nat} {Q : Exit → List Deferred → Env → AST → Prop} {e : Exit} {a : Act} {w0 w1 : World} {g0 g1 : G} (hE : Ev g0 w0 g1 w1) (h : LiftX n g1 w1 Q e a w) : LiftX n g0 w0 Q e a w := by
  obtain ⟨g2, τ, σ, h1, h2⟩ := h
  exact ⟨g2, τ, σ, hE.trans h1, h2⟩
theorem wpX_awp {n : Nat} {c : Code} {Q : Exit → List Deferred → Env → AST → Prop} {ds : List Deferred} {τ : Env} (hm : P.follows .mixedOrders = true) (hd : dstOk n c = true) (h : (∀ t, lenOk (τ t)) → awp P c (fun e τ σ => Q e ds τ σ) τ σ) : wpX P n c Q ds τ σ := by
  intro g w a hI hr hn hds
  refine wpIn_mono (awp_sound (r0 := none) hm c hd (h fun t => lenOk_of (hr t)) hI hr hn) ?_
  rintro e a' w' ⟨g', τ', σ', hE, hI', hr', hn', hds', hq⟩
  exact ⟨g', τ', σ', hE, hI', hr', hn', by rw [hds', hds]; exact hq⟩
theorem wpX_seq {n : Nat} {x y : Code} {Q : Exit → List Deferred → Env → AST → Prop} {ds : List Deferred} {τ : Env} (h : wpX P n x (fun e ds τ σ => match e with | .normal => wpX P n y Q ds τ σ | e => Q e ds τ σ) ds τ σ) : wpX P n (.seq x y) Q ds τ σ := by
  intro g w a hI hr hn hds
  refine wpIn_seq (wpIn_mono (h g w a hI hr hn hds) ?_)
  rintro e a' w' ⟨g', τ', σ', hE, hI', hr', hn', hq⟩
  cases e with
  | normal => exact wpIn_mono (hq g' w' a' hI' hr' hn' rfl) fun e a2 w2 hl => LiftX.trans hE hl
  | exit id => exact ⟨g', τ', σ', hE, hI', hr', hn', hq⟩
  | goto l => exact ⟨g', τ', σ', hE, hI', hr', hn', hq⟩
  | ret => exact ⟨g', τ', σ', hE, hI', hr', hn', hq⟩
  | panic ch => exact ⟨g', τ', σ', hE, hI', hr', hn', hq⟩
  | outgrown => exact ⟨g', τ', σ', hE, hI', hr', hn', hq⟩
theorem wpX_seq_k {n : Nat} {x y : Code} {Q : Exit → List Deferred → Env → AST → Prop} {ds : List Deferred} {τ : Env} (hm : P.follows .mixedOrders = true) (hd : dstOk n x = true)
    (h : ∀ KR : Env → AST → Prop, (∀ τ σ, wpX P n y Q ds τ σ → KR τ σ) → awp P x (thenQ KR fun _ _ _ => False) τ σ) : wpX P n (.seq x y) Q ds τ σ := by
  refine wpX_seq fun g w a hI hr hn hds => ?_
  refine wpIn_mono (awp_sound (r0 := none) hm x hd (h _ fun _ _ h => h) hI hr hn) ?_
  rintro e a' w' ⟨g', τ', σ', hE, hI', hr', hn', hds', hq⟩
  cases e with
  | normal => exact ⟨g', τ', σ', hE, hI', hr', hn', by rw [hds', hds]; exact hq⟩
  | exit id => exact hq.elim
  | goto l => exact hq.elim
  | ret => exact hq.elim
  | panic ch => exact hq.elim
  | outgrown => exact hq.elim
theorem wpX_block {n id : Nat} {c : Code} {Q : Exit → List Deferred → Env → AST → Prop} {ds : List Deferred} {τ : Env} (h : wpX P n c (fun e ds τ σ => blockQ id (fun e τ σ => Q e ds τ σ) e τ σ) ds τ σ) : wpX P n (.block id c) Q ds τ σ := by
  intro g w a hI hr hn hds
  refine wpIn_block (wpIn_mono (h g w a hI hr hn hds) ?_)
  rintro e a' w' ⟨g', τ', σ', hE, hI', hr', hn', hq⟩
  cases e with
  | exit id' =>
    simp only [Exit.inBlock, blockQ] at hq ⊢
    split
    · rename_i e; rw [if_pos e] at hq; exact ⟨g', τ', σ', hE, hI', hr', hn', hq⟩
    · rename_i e; rw [if_neg e] at hq; exact ⟨g', τ', σ', hE, hI', hr', hn', hq⟩
  | normal => exact ⟨g', τ', σ', hE, hI', hr', hn', hq⟩
  | goto l => exact ⟨g', τ', σ', hE, hI', hr', hn', hq⟩
  | ret => exact ⟨g', τ', σ', hE, hI', hr', hn', hq⟩
  | panic ch => exact ⟨g', τ', σ', hE, hI', hr', hn', hq⟩
  | outgrown => exact ⟨g', τ', σ', hE, hI', hr', hn', hq⟩
/-- The statement: the function that is ranged over is called, with yield; behind it the jump that a round has left. -/
theorem wpX_range {n gf : Nat} {fo : Operand} {cap vs : List AV} {ps : Array Tmp} {assign body : Code} {Q : Exit → List Deferred → Env → AST → Prop} {ds : List Deferred} {τ : Env}
    (hf : ev τ fo = .fn (.func gf) [] cap) (hvs : ∀ (i : Nat) v, vs[i]? = some v → v = .undef ∨ (v = τ i ∧ v.known = true)) (hlen : vs.length ≤ n)
    (h : ∀ (fn : FuncId) (l D : Nat) (tm : Array Value), tm.size = n → TCalls P gf (.fn (.yield l) [] [] :: cap) ((σ.push (.pin D (.deferred (some [])) [] [])).push (.pin l (rec fn tm ps assign body D .ready none) vs tm.toList)) fun v σ' =>
      ∃ st pe, st ≠ .busy ∧ σ'.objs[σ.objs.length + 1]? = some (.pin l (rec fn tm ps assign body D st pe) vs tm.toList) ∧
        match pe with
        | none => Q .normal (⟨.collected D, #[]⟩ :: ds) τ (σ'.set (σ.objs.length + 1) (.pin l (rec fn tm ps assign body D .exhausted pe) vs tm.toList))
        | some c => wpX P n c Q (⟨.collected D, #[]⟩ :: ds) τ (σ'.set (σ.objs.length + 1) (.pin l (rec fn tm ps assign body D .exhausted pe) vs tm.toList))) :
    wpX P n (.rangeFunc fo ps assign body) Q ds τ σ := by
  intro g w a hI hr hn hds
  refine wpIn_rangeFunc ?_
  intro fn _
  have hx := ev_rel (a := a) hr fo
  rw [hf] at hx
  have hfv := (relV_scalar hx rfl rfl).1
  simp only [relC, List.cons.injEq, and_true] at hfv
  obtain ⟨p, q, h1, h2, h3⟩ := hfv
  simp only [relVs] at h2
  obtain rfl : p = #[] := by cases p; simp_all
  obtain ⟨g1, hE1, hI1⟩ := inv_pushPin (o := .deferred (some [])) (vs := []) (xs := []) hI (fun i v x h => by simp at h)
  obtain ⟨g2, hE2, hI2⟩ := inv_pushPin (o := rec fn a.tmps ps assign body w.heap.size .ready none) (vs := vs) (xs := a.tmps.toList) hI1 (fun i v x hv hx => by
    rcases hvs i v hv with rfl | ⟨rfl, hk⟩
    · exact .inl rfl
    · have := hr i
      have hi : i < a.tmps.size := by have := (List.getElem?_eq_some_iff.1 hx).1; simpa using this
      have hxe : a.tmps.getD i Go.undef = x := by
        simp only [Array.getElem?_toList, Array.getElem?_eq_getElem hi, Option.some.injEq] at hx
        simp [Array.getD, hi, hx]
      rw [hxe] at this
      exact .inr (relV_known (relV_mono hE1 this) hk))
  have hEE := hE1.trans hE2
  rw [World.size_alloc] at hI2
  obtain ⟨hok, hT⟩ := h fn (w.heap.size + 1) w.heap.size a.tmps hn
  have hAA : relA g2 ((w.alloc (.deferred (some []))).alloc (rec fn a.tmps ps assign body w.heap.size .ready none)) (.fn (.yield (w.heap.size + 1)) [] [] :: cap) (#[Value.func (Fn.yield (w.heap.size + 1)) #[] #[]] ++ q).toList := by
    have := relA_append (g := g2) (w := (w.alloc (.deferred (some []))).alloc (rec fn a.tmps ps assign body w.heap.size .ready none)) (a := [AV.fn (Fn.yield (w.heap.size + 1)) [] []]) (x := [Value.func (Fn.yield (w.heap.size + 1)) #[] #[]]) (b := cap) (y := q.toList) ?_ (relA_of_relVs (relVs_mono hEE h3))
    · simpa using this
    · refine relA_of_relVs ?_
      simp only [relVs]
      exact ⟨_, _, rfl, by simp only [Value.cells, relC]; exact ⟨#[], #[], rfl, by simp [relVs], by simp [relVs]⟩, rfl, rfl⟩
  generalize hW : (w.alloc (.deferred (some []))).alloc (rec fn a.tmps ps assign body w.heap.size .ready none) = W2 at *
  have hen : (Instr.enterLoop fn a.tmps ps assign body none).run P w = .ok (w.heap.size + 1, [{ target := .collected w.heap.size, args := #[] }]) W2 := by rw [← hW]; exact run_enterLoop_outer _ _ _ _ _
  refine ⟨w.heap.size + 1, _, W2, { target := Target.fn (Fn.func gf) q, args := #[Value.func (Fn.yield (w.heap.size + 1)) #[] #[]] }, W2, gf, #[Value.func (Fn.yield (w.heap.size + 1)) #[] #[]] ++ q, W2, hen, ?_, fun _ _ => trivial, ?_, fun h => by simp at h, ?_⟩
  · simp only [resolve, h1]
    simp [go_sem, Deferred.ofValue]
  · simp [invoke, go_sem, callFunc_run hok]
  · refine (calls_in (hT g2 _ _ hI2 hAA)).mono ?_
    rintro e w3 ⟨x, g3, v, σ3, rfl, hE3, hI3, hr3, st, pe, hst, hs3, hq⟩
    obtain ⟨hl3, hE4, hI4⟩ := inv_pin (o' := rec fn a.tmps ps assign body w.heap.size .exhausted pe) hI3 hs3
    refine ⟨pe, _, run_endLoop hl3 hst, ?_⟩
    have hE5 := (hEE.trans hE3).trans hE4
    cases pe with
    | none => exact ⟨g3, τ, _, hE5, hI4, relE_mono hE5 hr, hn, by dsimp only; rw [hds]; exact hq⟩
    | some c => exact wpIn_mono (hq g3 _ _ hI4 (relE_mono hE5 hr) hn (by dsimp only; rw [hds]; rfl)) fun e a2 w2 hl => LiftX.trans hE5 hl

/-- How the function is left: the mark is taken up. -/
def endX (P : Program) (fn : Func) (K : AV → AST → Prop) : Exit → List Deferred → Env → AST → Prop := fun e ds τ σ =>
  (e = .normal ∨ e = .ret) ∧ ∃ D i vs xs, ds = [⟨.collected D, #[]⟩] ∧ σ.objs[i]? = some (.pin D (.deferred (some [])) vs xs) ∧
    resW P fn.results.toList τ (σ.set i (.pin D (.deferred none) vs xs)) fun v => K v (σ.set i (.pin D (.deferred none) vs xs))

theorem tcalls_ofX {f : FuncId} (fn : Func) {c : Code} {args : List AV} {K : AV → AST → Prop} (hok : FnOk P f) (hf : P.funcs[f]? = some fn) (hb : fn.body = some c) (hn : args.length ≤ fn.ntmps)
    (h : (∀ v ∈ args, lenOk v) → wpX P fn.ntmps c (endX P fn K) [] (env0 args) σ) : TCalls P f args σ K := by
  refine ⟨hok, fun g w xs hI hA => ?_⟩
  have hlen : ∀ v ∈ args, lenOk v := by
    intro v hv
    obtain ⟨i, hi⟩ := List.mem_iff_getElem?.1 hv
    have hlt : i < xs.toList.length := by rw [← hA.1]; exact (List.getElem?_eq_some_iff.1 hi).1
    exact lenOk_of (hA.2 i v _ hi (List.getElem?_eq_getElem hlt))
  have hsz : xs.size = args.length := by have := hA.1; simp at this; omega
  refine (callsIn_wide (n := 0)).1 (callsIn_of_wp_marks (F := FR none) hf hb trivial ?_ rfl)
  refine wpIn_mono (h hlen g w { tmps := xs ++ Array.replicate (fn.ntmps - xs.size) Go.undef, defers := [] } hI (env0_rel hA _) (by simp; omega) rfl) ?_
  rintro e a' w' ⟨g', τ', σ', hE, hI', hr', hn', he, D, i, vs, ys, hds, hi, hq⟩
  obtain ⟨hD, hE2, hI2⟩ := inv_pin (o' := .deferred none) hI' hi
  have key : LeavesInM (FR none) 0 P fn a'.tmps (fun e w' => ∃ x g' v σ', e = .returned x ∧ Ev g w g' w' ∧ Inv g' σ' w' ∧ relV g' w' v x ∧ K v σ') a'.defers .returning w' := by
    rw [hds]
    refine ⟨by simp, .inl ⟨_, _, rfl, run_takeDeferred hD, ?_⟩⟩
    obtain ⟨y, v, hy, hv, hk⟩ := resW_run hI2 (relE_mono hE2 hr') hq
    exact ⟨y, hy, y, g', v, _, rfl, hE.trans hE2, hI2, hv, hk⟩
  rcases he with rfl | rfl
  · exact key
  · exact key
end Go.Aff

/- Regions that draw their order and leave something behind: walked in one order. -/
namespace Go.Aff
set_option linter.unusedVariables false
set_option linter.unusedSimpArgs false

variable {P : Program} {σ σ' : AST} {ops : Array Oper} {τ : Env} {KE : Env → AST → Prop}

/-- The object that an operation reads. -/
def ptrO : AV → List Nat
  | .ptr (some (i, _)) => [i]
  | .arr i _ _ => [i]
  | _ => []
def reads (ρ : Operand → AV) : Op → List Nat
  | .load _ x => ptrO (ρ x)
  | .fieldAddr _ x _ => ptrO (ρ x)
  | .indexAddr _ x _ => ptrO (ρ x)
  | .convert _ _ x => ptrO (ρ x)
  | _ => []
def keeps (ks : List Nat) (σ σ' : AST) : Prop := ∀ k ∈ ks, σ'.objs[k]? = σ.objs[k]?

theorem opW_free {ρ : Operand → AV} {o : Oper} {p : AV → Prop} (he : effO P o = false) (hs : keeps (reads ρ o.op) σ σ') (h : opW P ρ o σ fun v _ => p v) : opW P ρ o σ' fun v _ => p v := by
  obtain ⟨dst, op, type, pos, after, guard⟩ := o
  cases op <;> simp only [effO] at he <;> simp only [opW] at h ⊢ <;> try exact h
  case convert s d x =>
    unfold convW at h ⊢
    split at h
    · exact h
    · rcases h with h | ⟨e, h1, h2, h3, h4⟩
      · exact .inl h
      · rw [h1] at he; simp at he
    · exact h
    · rename_i i p n ha
      rw [hs i (by simp [reads, ha, ptrO])]
      exact h
    · exact h
  case load t a =>
    unfold loadW at h ⊢
    split at h
    · rename_i i p ha
      rw [hs i (by simp [reads, ha, ptrO])]
      exact h
    · exact h
    · exact h.elim
  case fieldAddr t x i =>
    refine ⟨h.1, ?_⟩
    have h := h.2
    unfold fieldAddrW at h ⊢
    split at h
    · rename_i j p ha
      rw [hs j (by simp [reads, ha, ptrO])]
      exact h
    · exact h
    · exact h.elim
  case indexAddr t x i =>
    unfold indexAddrW at h ⊢
    split at h
    · split at h
      · exact h
      · rename_i j p ha
        rw [hs j (by simp [reads, ha, ptrO])]
        exact h
      · exact h
      · rename_i j p m ha
        rw [hs j (by simp [reads, ha, ptrO])]
        exact h
      · exact h.elim
    · exact h.elim
  case call c =>
    unfold callW at h ⊢
    split at h
    · rename_i hc; simp [hc] at he
    · exact h
    · rename_i hc; simp [hc] at he
    · exact h
    · exact h
    · rename_i hc; simp [hc] at he
    · rename_i hc; simp [hc] at he
    · rename_i hc; simp [hc] at he
    · rename_i hc; simp [hc] at he
    · exact h.elim
  all_goals (simp at he)

theorem step_same {o : Oper} {v : AV} (hl : ∀ t, lenOk (τ t)) (he : effO P o = false) (hs : keeps (reads (ev τ) o.op) σ σ') (h : stepW P ops o τ σ fun v' σ'' => v' = v ∧ σ'' = σ) :
    stepW P ops o τ σ' fun v' σ'' => v' = v ∧ σ'' = σ' := by
  have hlo : ∀ x, lenOk (ev τ x) := by
    intro x
    cases x with
    | tmp t => exact hl t
    | const c => simp only [ev]; exact lenOk_of (g := ⟨0, [], fun _ => none, []⟩) (w := default) (absV_rel _ _ c)
    | global _ => trivial
    | func f => trivial
  have key : opW P (ev τ) o σ (fun v' σ'' => v' = v ∧ σ'' = σ) → opW P (ev τ) o σ' (fun v' σ'' => v' = v ∧ σ'' = σ') := by
    intro h
    have h0 : opW P (ev τ) o σ (fun v' _ => v' = v) := opW_mono (fun _ _ h => h.1) h
    obtain ⟨u, hu, hk⟩ := op_det hlo he (opW_free he hs h0)
    subst hu
    exact hk _ ⟨rfl, rfl⟩
  unfold stepW at h ⊢
  split at h
  · exact key h
  · split at h
    · exact h.elim
    · split at h
      · exact ⟨fun e => key (h.1 e), fun e => ⟨(h.2 e).1, rfl⟩⟩
      · exact ⟨h.1, rfl⟩
      · exact h.elim

/-- A region in one order; with each operation whether it may leave something behind; ks: the objects that have been read. -/
def seqE (P : Program) (ops : Array Oper) : List (Nat × Bool) → List Nat → Env → AST → (Env → AST → Prop) → Prop
  | [], ks, τ, σ, K => K τ σ
  | (i, true) :: r, ks, τ, σ, K => match gop ops i with
    | none => False
    | some o => stepW P ops o τ σ fun v σ' => keeps ks σ σ' ∧ seqE P ops r ks (τ.putO o.dst v) σ' K
  | (i, false) :: r, ks, τ, σ, K => match gop ops i with
    | none => False
    | some o => stepW P ops o τ σ fun v σ' => σ' = σ ∧ seqE P ops r (reads (ev τ) o.op ++ ks) (τ.putO o.dst v) σ' K

def flagsOk (P : Program) (ops : Array Oper) (l : List (Nat × Bool)) : Bool := l.all fun x => match ops[x.1]? with
  | none => false
  | some o => effO P o == x.2

def pastOkE (P : Program) (ops : Array Oper) (ks : List Nat) (past : List (Nat × Env × AV)) (σ : AST) : Prop :=
  ∀ x ∈ past, ∀ o, ops[x.1]? = some o → (∀ t, lenOk (x.2.1 t)) ∧ effO P o = false ∧ (∀ k ∈ reads (ev x.2.1) o.op, k ∈ ks) ∧ stepW P ops o x.2.1 σ fun v' σ'' => v' = x.2.2 ∧ σ'' = σ

theorem seqE_awpD : ∀ (l : List (Nat × Bool)) (ks : List Nat) (past : List (Nat × Env × AV)) (τ : Env) (σ : AST), flagsOk P ops l = true → pastOkE P ops ks past σ → (∀ t, lenOk (τ t)) → seqE P ops l ks τ σ KE → awpD P ops (l.map (·.1)) past τ σ KE
  | [], ks, past, τ, σ, hf, hp, hlen, h => h
  | (i, true) :: r, ks, past, τ, σ, hf, hp, hlen, h => by
    simp only [seqE] at h
    split at h
    · exact h.elim
    · rename_i o hk
      have hk : ops[i]? = some o := hk
      simp only [flagsOk, List.all_cons, hk, Bool.and_eq_true, beq_iff_eq] at hf
      simp only [List.map_cons, awpD, hk, hf.1, if_true]
      refine stepW_mono (fun v σ' hh => ?_) h
      have hp' : pastOkE P ops ks past σ' := fun x hx o ho => by
        obtain ⟨h1, h2, h3, h4⟩ := hp x hx o ho
        exact ⟨h1, h2, h3, step_same h1 h2 (fun k hk => hh.1 k (h3 k hk)) h4⟩
      exact ⟨fun x hx _ o ho => (hp' x hx o ho).2.2.2, fun hlv => seqE_awpD r ks past _ _ hf.2 hp' hlv hh.2⟩
  | (i, false) :: r, ks, past, τ, σ, hf, hp, hlen, h => by
    simp only [seqE] at h
    split at h
    · exact h.elim
    · rename_i o hk
      have hk : ops[i]? = some o := hk
      simp only [flagsOk, List.all_cons, hk, Bool.and_eq_true, beq_iff_eq] at hf
      simp only [List.map_cons, awpD, hk, hf.1, Bool.false_eq_true, if_false]
      obtain ⟨v, hv, hkk⟩ := stepW_det hlen hf.1 h
      refine hkk _ fun hlv => seqE_awpD r _ _ _ _ hf.2 ?_ hlv hv.2
      intro x hx o' ho'
      rcases List.mem_cons.1 hx with rfl | hx
      · dsimp only at ho' ⊢
        rw [hk] at ho'; cases ho'
        exact ⟨hlen, hf.1, fun k hk => List.mem_append_left _ hk, hkk _ ⟨rfl, rfl⟩⟩
      · obtain ⟨h1, h2, h3, h4⟩ := hp x hx o' ho'
        exact ⟨h1, h2, fun k hk => List.mem_append_right _ (h3 k hk), h4⟩

theorem awp_drawE {id : Nat} {ops : Array Oper} {Q : Exit → Env → AST → Prop} (ord : List (Nat × Bool)) (ho : (ordOk P ops (ord.map (·.1)) && flagsOk P ops ord) = true) (h : seqE P ops ord [] τ σ (Q .normal)) : awp P (.region id ops true) Q τ σ := by
  rw [Bool.and_eq_true] at ho
  exact awp_draw _ ho.1 fun hlen => seqE_awpD ord [] [] τ σ ho.2 (fun x hx => by simp at hx) hlen h

/-! ### As rules -/
def seqEt (P : Program) (ops : Array Oper) (o : Option Oper) (r : List (Nat × Bool)) (ks : List Nat) (τ : Env) (σ : AST) (K : Env → AST → Prop) : Prop := match o with
  | none => False
  | some o => stepW P ops o τ σ fun v σ' => keeps ks σ σ' ∧ seqE P ops r ks (τ.putO o.dst v) σ' K
def seqEf (P : Program) (ops : Array Oper) (o : Option Oper) (r : List (Nat × Bool)) (ks : List Nat) (τ : Env) (σ : AST) (K : Env → AST → Prop) : Prop := match o with
  | none => False
  | some o => stepW P ops o τ σ fun v σ' => σ' = σ ∧ seqE P ops r (reads (ev τ) o.op ++ ks) (τ.putO o.dst v) σ' K
variable {ks : List Nat}
theorem seqE_nil : seqE P ops [] ks τ σ KE = KE τ σ := nr rfl
theorem seqE_t {i : Nat} {r : List (Nat × Bool)} : seqE P ops ((i, true) :: r) ks τ σ KE = seqEt P ops (gop ops i) r ks τ σ KE := by simp only [seqE, seqEt]
theorem seqE_f {i : Nat} {r : List (Nat × Bool)} : seqE P ops ((i, false) :: r) ks τ σ KE = seqEf P ops (gop ops i) r ks τ σ KE := by simp only [seqE, seqEf]
theorem seqEt_some {o : Oper} {r : List (Nat × Bool)} : seqEt P ops (some o) r ks τ σ KE = stepW P ops o τ σ (@Lam ⟨fun v σ' => @Later ⟨keeps ks σ σ' ∧ seqE P ops r ks (τ.putO o.dst v) σ' KE⟩⟩) := nr rfl
theorem seqEf_some {o : Oper} {r : List (Nat × Bool)} : seqEf P ops (some o) r ks τ σ KE = stepW P ops o τ σ (@Lam ⟨fun v σ' => σ' = σ ∧ @Later ⟨seqE P ops r (reads (ev τ) o.op ++ ks) (τ.putO o.dst v) σ' KE⟩⟩) := nr rfl
theorem reads_load {ρ : Operand → AV} {t : TypeId} {x : Operand} : reads ρ (.load t x) = ptrO (ρ x) := rfl
theorem reads_fieldAddr {ρ : Operand → AV} {t : TypeId} {x : Operand} {i : Nat} : reads ρ (.fieldAddr t x i) = ptrO (ρ x) := rfl
theorem reads_indexAddr {ρ : Operand → AV} {t : TypeId} {x y : Operand} : reads ρ (.indexAddr t x y) = ptrO (ρ x) := rfl
theorem reads_move {ρ : Operand → AV} {x : Operand} : reads ρ (.move x) = [] := rfl
theorem reads_assign {ρ : Operand → AV} {x : Operand} : reads ρ (.assign x) = [] := rfl
theorem reads_index {ρ : Operand → AV} {t : TypeId} {x y : Operand} : reads ρ (.index t x y) = [] := rfl
theorem reads_convert {ρ : Operand → AV} {s d : TypeId} {x : Operand} : reads ρ (.convert s d x) = ptrO (ρ x) := rfl
theorem reads_binOp {ρ : Operand → AV} {op : BinOp} {t u : TypeId} {x y : Operand} : reads ρ (.binOp op t x y u) = [] := rfl
theorem reads_unOp {ρ : Operand → AV} {op : UnOp} {t : TypeId} {x : Operand} : reads ρ (.unOp op t x) = [] := rfl
theorem reads_extract {ρ : Operand → AV} {x : Operand} {i : Nat} : reads ρ (.extract x i) = [] := rfl
theorem reads_field {ρ : Operand → AV} {t : TypeId} {x : Operand} {i : Nat} : reads ρ (.field t x i) = [] := rfl
theorem reads_build {ρ : Operand → AV} {t : TypeId} {ps : Array (Nat × Operand)} : reads ρ (.build t ps) = [] := rfl
theorem reads_slice {ρ : Operand → AV} {t : TypeId} {x : Operand} {a b c : Option Operand} : reads ρ (.slice t x a b c) = [] := rfl
theorem reads_call {ρ : Operand → AV} {c : Call} : reads ρ (.call c) = [] := rfl
theorem ptrO_some {i : Nat} {p : List Nat} : ptrO (.ptr (some (i, p))) = [i] := rfl
theorem ptrO_eptr {v : AV} : ptrO (.eptr v) = [] := rfl
theorem ptrO_slice {tk : Tk} {xs : List AV} : ptrO (.slice tk xs) = [] := rfl
theorem keeps_nil : keeps [] σ σ' := fun _ h => by simp at h
theorem keeps_refl : keeps ks σ σ := fun _ _ => rfl
attribute [go_sem ↓] seqE_nil seqE_t seqE_f seqEt_some seqEf_some
attribute [go_sem] reads_load reads_fieldAddr reads_indexAddr reads_move reads_assign reads_index reads_convert reads_binOp reads_unOp reads_extract reads_field reads_build reads_slice reads_call ptrO_some ptrO_eptr ptrO_slice List.nil_append
end Go.Aff

/- Walking: stores; states by what has been added to a first one. -/
namespace Go.Aff
set_option linter.unusedVariables false
set_option linter.unusedSimpArgs false

variable {P : Program} {σ σ' : AST} {K : AV → AST → Prop} {KV : AV → Prop} {KS : AST → Prop}

/-- A state with more objects. -/
def AST.app (σ : AST) (l : List AObj) : AST := ⟨σ.objs ++ l, σ.toks⟩
theorem push_app {o : AObj} : σ.push o = σ.app [o] := rfl
theorem app_app {a b : List AObj} : (σ.app a).app b = σ.app (a ++ b) := by simp [AST.app]
theorem app_nil : σ.app [] = σ := by simp [AST.app]
theorem length_app {l : List AObj} : (σ.app l).objs.length = σ.objs.length + l.length := by simp [AST.app]
theorem toks_app {l : List AObj} : (σ.app l).toks = σ.toks := rfl
theorem objs_app {l : List AObj} {k : Nat} : (σ.app l).objs[σ.objs.length + k]? = l[k]? := by
  simp only [AST.app]; rw [List.getElem?_append_right (by omega)]; congr 1; omega
theorem objs_app0 {l : List AObj} : (σ.app l).objs[σ.objs.length]? = l[0]? := objs_app (k := 0)
theorem cellAt_app {l : List AObj} {k : Nat} {p : List Nat} : cellAt (σ.app l) (σ.objs.length + k) p = (l[k]?).bind fun o => objCell o p := by simp only [cellAt, objs_app]
theorem cellAt_app0 {l : List AObj} {p : List Nat} : cellAt (σ.app l) σ.objs.length p = (l[0]?).bind fun o => objCell o p := cellAt_app (k := 0)
theorem set_app {l : List AObj} {k : Nat} {o : AObj} : (σ.app l).set (σ.objs.length + k) o = σ.app (l.set k o) := by
  simp only [AST.app, AST.set]; congr 1
  rw [List.set_append_right _ _ (by omega)]; congr 2; omega
theorem set_app0 {l : List AObj} {o : AObj} : (σ.app l).set σ.objs.length o = σ.app (l.set 0 o) := set_app (k := 0)
theorem Ext.app (σ : AST) (l : List AObj) : Ext σ (σ.app l) := ⟨l, [], by simp [AST.app]⟩

def storeC (P : Program) (t : TypeId) (o : Option AObj) (p : List Nat) (x : AV) (K : AV → Prop) : Prop := match o with
  | some (.cells v) => match v.at p with
    | some u => fits P t x ∧ x.shape = u.shape ∧ x.known = true ∧ setOk v p x ∧ K (v.setAt p x)
    | none => False
  | _ => False
def storeV (P : Program) (t : TypeId) (v : AV) (u : Option AV) (p : List Nat) (x : AV) (K : AV → Prop) : Prop := match u with
  | some u => fits P t x ∧ x.shape = u.shape ∧ x.known = true ∧ setOk v p x ∧ K (v.setAt p x)
  | none => False
theorem store_ptr {t : TypeId} {j : Nat} {p : List Nat} {x : AV} : storeW P σ t (.ptr (some (j, p))) x KS = storeC P t σ.objs[j]? p x (@LamA _ ⟨fun v' => KS (σ.set j (.cells v'))⟩) := by
  simp only [storeW, storeC, LamA]
  cases h : σ.objs[j]? with
  | none => rfl
  | some o => cases o <;> rfl
theorem storeC_cells {t : TypeId} {v x : AV} {p : List Nat} : storeC P t (some (.cells v)) p x KV = storeV P t v (v.at p) p x KV := nr rfl
theorem storeV_some {t : TypeId} {v u x : AV} {p : List Nat} : storeV P t v (some u) p x KV = ((fits P t x ∧ x.shape = u.shape ∧ x.known = true ∧ setOk v p x) ∧ @Later ⟨KV (v.setAt p x)⟩) := by
  simp [storeV, Later, and_assoc]
theorem setOk_nil {v x : AV} : setOk v [] x = True := by cases v <;> simp [setOk]
theorem setAt_nil {v x : AV} : v.setAt [] x = x := by cases v <;> simp [AV.setAt]
theorem shape_int {k : IntKind} {n : Int} : (AV.int k n).shape = .leaf := by simp [AV.shape]
theorem shape_str {s : List UInt8} : (AV.str s).shape = .leaf := by simp [AV.shape]
theorem shape_bool {b : Bool} : (AV.bool b).shape = .leaf := by simp [AV.shape]
theorem shape_slice {tk : Tk} {xs : List AV} : (AV.slice tk xs).shape = .leaf := by simp [AV.shape]
theorem shape_ptr {p : Option (Nat × List Nat)} : (AV.ptr p).shape = .leaf := by simp [AV.shape]
theorem shape_fn {f : Fn} {a b : List AV} : (AV.fn f a b).shape = .leaf := by simp [AV.shape]

/-- A place of an array of ints in memory. -/
theorem indexAddr_ptr {t e n : Nat} {j : Nat} {k : IntKind} {xs : List Int} {i : Nat} {x : Int} (hu : P.underlying t = some (.array n e)) (he : P.underlying e = some (.int k)) (hc : P.cellsOf e = 1) (hl : xs.length = n)
    (ho : σ.objs[j]? = some (.cells (.agg (xs.map (AV.int k))))) (hi : xs[i]? = some x) (hK : KV (.ptr (some (j, [i])))) {q : IntKind} : indexAddrW P σ t (.ptr (some (j, []))) (.int q i) KV := by
  have hin : i < n := by rw [← hl]; exact (List.getElem?_eq_some_iff.1 hi).1
  have hsz : ∀ l : List Int, AV.sizes (l.map (AV.int k)) = l.length := by
    intro l
    induction l with
    | nil => rfl
    | cons a r ih => simp only [List.map_cons, AV.sizes, AV.size, ih, List.length_cons]; omega
  have hpl : placeOf P t i = some (i * 1, e) := by
    unfold placeOf
    rw [hu]; simp only; rw [if_pos hin, hc]
  simp only [indexAddrW, ho]
  show nthW (xs.map (AV.int k)) (i : Int) _
  refine ⟨by omega, by simp; omega, fun z hz => ?_⟩
  simp only [Int.toNat_natCast, List.getElem?_map, hi, Option.map_some, Option.some.injEq] at hz
  subst hz
  refine ⟨⟨e, ?_, ?_⟩, ⟨e, by rw [List.length_map, hl]; exact hu⟩, ?_⟩
  · rw [Int.toNat_natCast, hpl, ← List.map_take, hsz, List.length_take]
    congr 2; omega
  · unfold fits
    refine ⟨by unfold aggT; rw [he]; rfl, by rw [hc]; simp [AV.size]⟩
  · simpa using hK
theorem cellAt_int {j i : Nat} {k : IntKind} {xs : List Int} {x : Int} (ho : σ.objs[j]? = some (.cells (.agg (xs.map (AV.int k))))) (hi : xs[i]? = some x) : cellAt σ j [i] = some (.int k x) := by
  simp [cellAt, ho, objCell, AV.at, hi]
/-- A store there. -/
theorem store_int {t j i : Nat} {k : IntKind} {xs : List Int} {x y : Int} (ho : σ.objs[j]? = some (.cells (.agg (xs.map (AV.int k))))) (hi : xs[i]? = some x) (hf : fits P t (.int k y)) (hK : KS (σ.set j (.cells (.agg ((xs.set i y).map (AV.int k)))))) :
    storeW P σ t (.ptr (some (j, [i]))) (.int k y) KS := by
  simp only [storeW, ho, AV.at, List.getElem?_map, hi, Option.map_some, Option.bind_some]
  refine ⟨hf, by simp [AV.shape], rfl, ?_, ?_⟩
  · simp only [setOk, List.getElem?_map, hi, Option.map_some, Option.some.injEq]
    rintro v rfl; trivial
  · have : (AV.agg (xs.map (AV.int k))).setAt [i] (.int k y) = .agg ((xs.set i y).map (AV.int k)) := by
      simp only [AV.setAt, List.getElem?_map, hi, Option.map_some, List.map_set]
    rw [this]; exact hK

theorem storeC_int {t i : Nat} {k : IntKind} {xs : List Int} {x y : Int} {o : Option AObj} (ho : o = some (.cells (.agg (xs.map (AV.int k))))) (hi : xs[i]? = some x) (hf : fits P t (.int k y)) (hK : KV (.agg ((xs.set i y).map (AV.int k)))) :
    storeC P t o [i] (.int k y) KV := by
  subst ho
  simp only [storeC, AV.at, List.getElem?_map, hi, Option.map_some, Option.bind_some]
  refine ⟨hf, by simp [AV.shape], rfl, ?_, ?_⟩
  · simp only [setOk, List.getElem?_map, hi, Option.map_some, Option.some.injEq]
    rintro v rfl; trivial
  · have : (AV.agg (xs.map (AV.int k))).setAt [i] (.int k y) = .agg ((xs.set i y).map (AV.int k)) := by
      simp only [AV.setAt, List.getElem?_map, hi, Option.map_some, List.map_set]
    rw [this]; exact hK

/-- A beginning of a slice. -/
theorem slice_hi {t e c b h : Nat} (E : ElemT P t e c b) (hd : ∃ d, P.underlying e = some d) {tk : Tk} {xs : List AV} {q : IntKind} (hx : ∀ v ∈ xs, v.size = c) (hh : h ≤ xs.length) (hK : ∀ tk', KV (.slice tk' (xs.take h))) :
    sliceW P t (.slice tk xs) none (some (.int q (h : Nat))) none KV := by
  refine ⟨e, E.hu, by rw [E.hc]; exact hx, hd, ?_⟩
  simp only [bndW, Int.toNat_natCast, List.drop_zero]
  exact ⟨by omega, Nat.zero_le _, hh, hK _⟩
/-- An end of one. -/
theorem slice_lo {t e c b h : Nat} (E : ElemT P t e c b) (hd : ∃ d, P.underlying e = some d) {tk : Tk} {xs : List AV} {q : IntKind} (hx : ∀ v ∈ xs, v.size = c) (hh : h ≤ xs.length) (hK : ∀ tk', KV (.slice tk' (xs.drop h))) :
    sliceW P t (.slice tk xs) (some (.int q (h : Nat))) none none KV := by
  refine ⟨e, E.hu, by rw [E.hc]; exact hx, hd, ?_⟩
  simp only [bndW, Int.toNat_natCast, List.take_length]
  exact ⟨by omega, hh, Nat.le_refl _, hK _⟩
theorem one_cell {t : Tmp} {ty : TypeId} {τ : Env} : oneRes P τ σ (.cell t ty) KV = loadW P σ ty (τ t) KV := nr rfl
attribute [go_sem ↓] one_cell
attribute [go_sem] store_ptr storeC_cells storeV_some setOk_nil setAt_nil shape_int shape_str shape_bool shape_slice shape_ptr shape_fn
end Go.Aff

