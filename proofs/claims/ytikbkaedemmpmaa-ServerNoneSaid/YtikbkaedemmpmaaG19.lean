import Derived.Test.YtikbkaedemmpmaaG18
import Derived.Test.YtikbkaedemmpmaaG17

set_option linter.unusedSimpArgs false
set_option linter.unusedVariables false

/- Layer 1: what is read is laid as the very bytes. Plain. -/
namespace Go.Aff.L01
open Go.Aff
set_option linter.unusedSimpArgs false
set_option linter.unusedVariables false

theorem ofNat_digit {b : UInt8} (h : isD b = true) : UInt8.ofNat (48 + (b.toNat - 48)) = b := by
  simp [isD] at h
  rw [show 48 + (b.toNat - 48) = b.toNat by omega]
  simp

/-- Digits without a zero ahead are the digits of what they say. -/
theorem dg_val_rev : ∀ (r : List UInt8), r ≠ [] → (∀ b ∈ r, isD b = true) → (∀ b, r.getLast? = some b → 1 < r.length → b.toNat ≠ 48) → dg (val r.reverse) = r.reverse ∧ (1 < r.length ∨ (∀ b ∈ r, b.toNat ≠ 48) → 0 < val r.reverse)
  | [], h, _, _ => absurd rfl h
  | [b], _, hd, _ => by
    have hb := hd b (by simp)
    have h48 : 48 ≤ b.toNat ∧ b.toNat ≤ 57 := by simpa [isD] using hb
    have hv : val [b] = b.toNat - 48 := by simp [val]
    simp only [List.reverse_singleton, hv]
    refine ⟨?_, ?_⟩
    · rw [dg_small (by omega), ofNat_digit hb]
    · rintro (h | h)
      · simp at h
      · have := h b (by simp); omega
  | b :: c :: r, _, hd, hl => by
    have hb := hd b (by simp)
    have h48 : 48 ≤ b.toNat ∧ b.toNat ≤ 57 := by simpa [isD] using hb
    have hlast : ∀ x, (c :: r).getLast? = some x → x.toNat ≠ 48 := fun x hx => hl x (by simpa using hx) (by simp)
    obtain ⟨ih, ihp⟩ := dg_val_rev (c :: r) (by simp) (fun x hx => hd x (by simp [hx])) (fun x hx _ => hlast x hx)
    have hpos : 0 < val (c :: r).reverse := by
      apply ihp
      cases r with
      | nil => exact .inr fun x hx => by simp at hx; subst hx; exact hlast x rfl
      | cons _ _ => exact .inl (by simp)
    have hv : val (b :: c :: r).reverse = val (c :: r).reverse * 10 + (b.toNat - 48) := by rw [List.reverse_cons, val_snoc]
    rw [hv]
    refine ⟨?_, fun _ => by omega⟩
    rw [dg_big (by omega), show (val (c :: r).reverse * 10 + (b.toNat - 48)) / 10 = val (c :: r).reverse by omega, ih,
      show (val (c :: r).reverse * 10 + (b.toNat - 48)) % 10 = b.toNat - 48 by omega, ofNat_digit hb]
    simp

theorem dg_val {D : List UInt8} (h0 : D ≠ []) (hd : ∀ b ∈ D, isD b = true) (hh : ∀ b, D.head? = some b → 1 < D.length → b.toNat ≠ 48) : dg (val D) = D := by
  have := (dg_val_rev D.reverse (by simpa using h0) (fun b hb => hd b (by simpa using hb)) (fun b hb hl => hh b (by simpa using hb) (by simpa using hl))).1
  simpa using this

theorem digs_isD {s : List UInt8} {p : Nat} : ∀ b ∈ digs s p, isD b = true := fun b hb => by
  unfold digs at hb
  generalize s.drop p = l at hb
  induction l with
  | nil => simp at hb
  | cons a l ih =>
    by_cases ha : isD a = true
    · rw [List.takeWhile_cons_of_pos ha] at hb
      rcases List.mem_cons.1 hb with rfl | hb
      · exact ha
      · exact ih hb
    · rw [List.takeWhile_cons_of_neg ha] at hb; simp at hb

theorem shape_lt {s : List UInt8} {p e last : Nat} (h : shapeS s p e last = 0) (he : e ≤ s.length) : e < s.length ∧ e ≠ p := by
  unfold shapeS at h
  split at h
  · cases h
  · split at h
    · cases h
    · omega
theorem drop_tw {p : UInt8 → Bool} : ∀ (l : List UInt8), l.drop (l.takeWhile p).length = l.dropWhile p
  | [] => rfl
  | a :: l => by
    by_cases ha : p a = true
    · rw [List.takeWhile_cons_of_pos ha, List.dropWhile_cons_of_pos ha]; simpa using drop_tw l
    · rw [List.takeWhile_cons_of_neg ha, List.dropWhile_cons_of_neg ha]; rfl
theorem digs_split {s : List UInt8} {p : Nat} : s.drop p = digs s p ++ s.drop (dend s p) := by
  have h := List.takeWhile_append_dropWhile (p := isD) (l := s.drop p)
  rw [← drop_tw, List.drop_drop] at h
  exact h.symm

theorem bAt_some {s : List UInt8} {i : Nat} {c : UInt8} (hi : i < s.length) (h : bAt s i = c.toNat) : s[i]? = some c := by
  obtain ⟨b, hb⟩ := get_lt hi
  rw [bAt_of hb] at h
  rw [hb]; congr 1; exact UInt8.toNat_inj.1 h

/-- Where the digits and the byte behind them are right. -/
theorem shape_once {s : List UInt8} {p : Nat} {c : UInt8} (hp : p ≤ s.length) (h : shapeS s p (dend s p) c.toNat = 0) : s.drop p = dg (val (digs s p)) ++ c :: s.drop (dend s p + 1) := by
  have hel := dend_le hp
  have hD : dend s p = p + (digs s p).length := rfl
  unfold shapeS at h
  split at h
  · cases h
  · split at h
    · cases h
    · rename_i h1 h2
      have hlt : dend s p < s.length := by omega
      have hc := bAt_some (c := c) hlt (by apply Classical.byContradiction; intro hh; exact h2 (.inr (.inl hh)))
      have hne : digs s p ≠ [] := fun hh => h2 (.inl (by rw [hD, hh]; rfl))
      rw [dg_val hne digs_isD ?_]
      · have e : s.drop (dend s p) = c :: s.drop (dend s p + 1) := by
          rw [List.drop_eq_getElem_cons hlt]; congr 1
          rw [List.getElem?_eq_getElem hlt] at hc; exact Option.some.inj hc
        rw [← e]; exact digs_split
      · intro b hb hl h48
        apply h2
        refine .inr (.inr ⟨by omega, ?_⟩)
        have : (digs s p)[0]? = some b := by rw [← List.head?_eq_getElem?]; exact hb
        rw [digs_get (by omega)] at this
        rw [bAt_of (by simpa using this)]; exact h48

theorem num_once {s : List UInt8} {p : Nat} {n nx : Int} (hp : p ≤ s.length) (h : numP s p = (n, nx, 0)) :
    s.drop p = numS n ++ s.drop nx.toNat ∧ nx = ((p + (numS n).length : Nat) : Int) ∧ -9223372036854775808 ≤ n ∧ n ≤ 9223372036854775807 := by
  have hl : lowB s p = true → p < s.length ∧ bAt s p = 45 := fun h => by simpa [lowB] using h
  unfold numP at h
  generalize hw : lowB s p = low at *
  cases low with
  | false =>
    simp only [Bool.false_eq_true, if_false] at h
    unfold numT at h
    simp only [Bool.false_eq_true, false_and, if_false] at h
    split at h
    · simp only [Prod.mk.injEq] at h; rename_i h0; exact absurd h.2.2 h0
    · rename_i h0
      split at h
      · simp at h
      · rename_i hm
        simp only [Prod.mk.injEq, and_true] at h
        obtain ⟨rfl, rfl⟩ := h
        have h1 := shape_once (c := 59) hp (Classical.not_not.1 h0)
        have hlen := congrArg List.length h1
        have hns : numS (val (digs s p) : Int) = dg (val (digs s p)) ++ [59] := by simp [numS]
        have hD : dend s p = p + (digs s p).length := rfl
        have hel := dend_le hp
        rw [hns]
        simp only [List.length_append, List.length_cons, List.length_drop, List.length_nil] at hlen ⊢
        have hok := shape_lt (Classical.not_not.1 h0) hel
        refine ⟨?_, by omega, by omega, by omega⟩
        rw [show ((dend s p : Int) + 1).toNat = dend s p + 1 by omega]
        rw [h1]; simp
  | true =>
    obtain ⟨hpl, h45⟩ := hl rfl
    simp only [if_true] at h
    unfold numT at h
    simp only [true_and, if_true] at h
    split at h
    · simp only [Prod.mk.injEq] at h; rename_i h0; exact absurd h.2.2 h0
    · rename_i h0
      split at h
      · simp at h
      · rename_i hz
        split at h
        · simp at h
        · rename_i hm
          simp only [Prod.mk.injEq, and_true] at h
          obtain ⟨rfl, rfl⟩ := h
          have h1 := shape_once (s := s) (c := 59) (p := p + 1) (by omega) (Classical.not_not.1 h0)
          have hel := dend_le (s := s) (p := p + 1) (by omega)
          have hok := shape_lt (Classical.not_not.1 h0) hel
          have hD : dend s (p + 1) = p + 1 + (digs s (p + 1)).length := rfl
          have hpos : 0 < val (digs s (p + 1)) := by
            apply Nat.pos_of_ne_zero; intro hv
            rw [hv, dg_zero] at h1
            have hlen := congrArg List.length h1
            simp only [List.length_append, List.length_cons, List.length_drop, List.length_nil] at hlen
            apply hz
            refine ⟨by omega, ?_⟩
            have : (s.drop (p + 1))[0]? = some 48 := by rw [h1]; rfl
            rw [List.getElem?_drop] at this
            rw [bAt_of (by simpa using this)]; rfl
          have hns : numS (-(val (digs s (p + 1)) : Int)) = 45 :: (dg (val (digs s (p + 1))) ++ [59]) := by
            unfold numS; rw [if_pos (by omega), show (-(val (digs s (p + 1)) : Int)).natAbs = val (digs s (p + 1)) by omega]; simp
          have e : s.drop p = 45 :: s.drop (p + 1) := by
            have hc := bAt_some (c := 45) hpl h45
            rw [List.drop_eq_getElem_cons hpl]; congr 1
            rw [List.getElem?_eq_getElem hpl] at hc; exact Option.some.inj hc
          have hlen := congrArg List.length h1
          rw [hns]
          simp only [List.length_append, List.length_cons, List.length_drop, List.length_nil] at hlen ⊢
          refine ⟨?_, by omega, by omega, by omega⟩
          rw [show ((dend s (p + 1) : Int) + 1).toNat = dend s (p + 1) + 1 by omega]
          rw [e, h1]; simp
end Go.Aff.L01

/- Layer 1, walked: the reference's numbers that are read. -/
namespace Go.Aff.L01
open Go.Proofs Go.Aff
set_option linter.unusedVariables false
set_option maxRecDepth 20000
set_option linter.unusedSimpArgs false
attribute [local go_sem] Try.underlying3 Try.underlying4 Try.underlying5 Try.underlying9 Try.underlying61 Try.underlying129 Try.underlying31

theorem val_mono {D : List UInt8} : ∀ (k : Nat), val (D.take k) ≤ val D := by
  intro k
  by_cases h : D.length ≤ k
  · rw [List.take_of_length_le h]; exact Nat.le_refl _
  · induction hn : D.length - k generalizing k with
    | zero => omega
    | succ n ih =>
      obtain ⟨b, hb⟩ := get_lt (l := D) (i := k) (by omega)
      have h1 := val_take_succ hb
      by_cases h2 : D.length ≤ k + 1
      · rw [List.take_of_length_le h2] at h1; omega
      · have := ih (k + 1) h2 (by omega); omega

theorem one_zero {s : List UInt8} {q e : Nat} (h1 : q < e) (h2 : e ≤ s.length) : ((s.take e).drop q == [48]) = decide (e = q + 1 ∧ bAt s q = 48) := by
  obtain ⟨b, hb⟩ := get_lt (l := s) (i := q) (by omega)
  have hd : s.drop q = b :: s.drop (q + 1) := by
    rw [List.drop_eq_getElem_cons (by omega)]; congr 1
    rw [List.getElem?_eq_getElem (by omega)] at hb; exact Option.some.inj hb
  rw [bAt_of hb, Bool.eq_iff_iff, beq_iff_eq, decide_eq_true_eq, List.drop_take, hd]
  constructor
  · intro h
    have hl := congrArg List.length h
    simp only [List.length_take, List.length_cons, List.length_drop, List.length_nil] at hl
    have e1 : e = q + 1 := by omega
    refine ⟨e1, ?_⟩
    rw [e1, show q + 1 - q = 1 by omega] at h
    simp at h; rw [h]; rfl
  · rintro ⟨rfl, h⟩
    rw [show q + 1 - q = 1 by omega]
    simp; exact UInt8.toNat_inj.1 h

end Go.Aff.L01

/- Layer 1, walked: a text that is read. -/
namespace Go.Aff.L01
open Go.Proofs Go.Aff
set_option linter.unusedVariables false
set_option maxRecDepth 20000
set_option linter.unusedSimpArgs false
attribute [local go_sem] Try.underlying3 Try.underlying4 Try.underlying5 Try.underlying9 Try.underlying61 Try.underlying129 Try.underlying31

/-- What reading a text comes to. -/
def textP (s : List UInt8) (p : Nat) : List UInt8 × Int × Int :=
  if shapeS s p (dend s p) 58 ≠ 0 then ([], 0, shapeS s p (dend s p) 58) else
  if 16384 < val (digs s p) then ([], 0, 4) else
  if s.length < dend s p + 1 + val (digs s p) then ([], 0, 5) else
  ((s.take (dend s p + 1 + val (digs s p))).drop (dend s p + 1), ((dend s p + 1 + val (digs s p) : Nat) : Int), 0)
def textR (s : List UInt8) (i : Int) : List UInt8 × Int × Int := if i < 0 ∨ (s.length : Int) < i then ([], 0, 3) else textP s i.toNat
def tupT (x : List UInt8 × Int × Int) : AV := .tuple [.str x.1, .int .i64 x.2.1, .int .i64 x.2.2]

theorem readText_c {s : List UInt8} {i : Int} (hi0 : -9223372036854775808 ≤ i) (hi1 : i ≤ 9223372036854775807) {σ : AST} {K : AV → AST → Prop}
    (hK : K (tupT (textR s i)) σ) : TCalls Try.prog 67 [.str s, .int .i64 i] σ K := by
  refine tcalls_walk Try.f67 _ [.tmp 4, .tmp 5, .tmp 6] Try.func67 rfl rfl rfl mixed (Nat.le_of_ble_eq_true rfl) rfl fun hlen => ?_
  have hs : s.length ≤ 9223372036854775807 := hlen (.str s) (by simp)
  refine awp_seq_k fun KA hKA => ?_
  simp -dsimp only [↓reduceIte, go_sem]
  refine hKA _ _ (awp_seq_k fun KB hKB => ?_)
  have go : ∀ τ : Env, τ 0 = .str s → τ 1 = .int .i64 i → ¬ (i < 0 ∨ (s.length : Int) < i) → KB τ σ := by
    intro τ t0 t1 hok
    have hi : (i.toNat : Int) = i := by omega
    rw [textR, if_neg hok] at hK
    generalize hp : i.toNat = p at hi hK
    have hpl : p ≤ s.length := by omega
    rw [← hi] at t1
    have hel := dend_le hpl
    have heq : p ≤ dend s p := by unfold dend; omega
    rw [textP] at hK
    refine hKB _ _ ?_
    simp -dsimp only [↓reduceIte, go_sem, t0, t1]
    refine run_c (most := 16384) hpl (by omega) (by omega) ?_
    simp -dsimp only [↓reduceIte, go_sem, t0, t1]
    refine shape_c (last := 58) heq hel ?_
    generalize hval : val (digs s p) = v at *
    generalize hee : dend s p = e at *
    generalize hsh : shapeS s p e 58 = sh at *
    simp -dsimp only [↓reduceIte, go_sem, t0, t1]
    refine boolW_split (fun h1 => ?_) (fun h1 => ?_)
    · have h1 : sh ≠ 0 := by simp at h1; exact h1
      rw [if_pos h1] at hK
      simp -dsimp only [↓reduceIte, go_sem, t0, t1]
      exact hK
    · have h1 : sh = 0 := by simp at h1; exact h1
      rw [if_neg (by simp [h1])] at hK
      rw [h1] at hsh
      have hlt := shape_ok hsh hel
      simp -dsimp only [↓reduceIte, go_sem, t0, t1]
      refine boolW_split (fun h2 => ?_) (fun h2 => ?_)
      · have h2 : 16384 < v := by simp at h2; omega
        rw [if_pos h2] at hK
        simp -dsimp only [↓reduceIte, go_sem, t0, t1]
        exact hK
      · have h2 : ¬ 16384 < v := by simp at h2; omega
        rw [if_neg h2] at hK
        have hmod : v % 18446744073709551616 = v := by omega
        have hw : IntKind.i64.wrap ((v : Nat) : Int) = (v : Int) := wrap_i64 (by omega) (by omega)
        have he1 : IntKind.i64.wrap ((e : Int) + 1) = ((e + 1 : Nat) : Int) := by rw [wrap_i64 (by omega) (by omega)]; omega
        simp -dsimp only [↓reduceIte, go_sem, t0, t1]
        refine arr_intro fun _ => ?_
        simp -dsimp only [↓reduceIte, go_sem, t0, t1]
        rw [hmod, hw, he1, wrap_i64 (n := (s.length : Int) - _) (by omega) (by omega)]
        refine boolW_split (fun h3 => ?_) (fun h3 => ?_)
        · have h3 : s.length < e + 1 + v := by simp at h3; omega
          rw [if_pos h3] at hK
          simp -dsimp only [↓reduceIte, go_sem, t0, t1]
          exact hK
        · have h3 : ¬ s.length < e + 1 + v := by simp at h3; omega
          rw [if_neg h3] at hK
          simp -dsimp only [↓reduceIte, go_sem, t0, t1]
          refine side_later (by omega) ?_
          have hfin : IntKind.i64.wrap (((e + 1 : Nat) : Int) + (v : Int)) = ((e + 1 + v : Nat) : Int) := by rw [wrap_i64 (by omega) (by omega)]; omega
          rw [hw, hfin]
          simp -dsimp only [↓reduceIte, go_sem, t0, t1]
          refine side_later (by omega) ?_
          simp -dsimp only [↓reduceIte, go_sem, t0, t1]
          refine ⟨by omega, by omega, later_intro ?_⟩
          simp -dsimp only [↓reduceIte, go_sem, t0, t1]
          rw [hw, hfin]
          exact hK
  have bad : i < 0 ∨ (s.length : Int) < i → K (tupT ([], 0, 3)) σ := fun h => by
    rw [textR, if_pos h] at hK; exact hK
  simp -dsimp only [↓reduceIte, go_sem]
  refine guardV_split (fun h1 => ?_) (fun h1 => ?_) <;> (try rw [h1])
  · have h1 : ¬ i < 0 := by simpa using h1
    simp -dsimp only [↓reduceIte, go_sem]
    refine arr_intro fun _ => ?_
    simp -dsimp only [↓reduceIte, go_sem]
    refine boolW_split (fun h2 => ?_) (fun h2 => ?_)
    · have h2 : (s.length : Int) < i := by simpa using h2
      simp -dsimp only [↓reduceIte, go_sem]
      exact bad (.inr h2)
    · have h2 : ¬ (s.length : Int) < i := by simpa using h2
      simp -dsimp only [↓reduceIte, go_sem]
      refine go _ ?_ ?_ (by omega) <;> simp only [go_sem]
  · have h1 : i < 0 := by simpa using h1
    simp -dsimp only [↓reduceIte, go_sem]
    exact bad (.inl h1)
end Go.Aff.L01

/- Layer 1, walked: the reference's texts that are read; how a list begins. -/
namespace Go.Aff.L01
open Go.Proofs Go.Aff
set_option linter.unusedVariables false
set_option maxRecDepth 20000
set_option linter.unusedSimpArgs false
attribute [local go_sem] Try.underlying3 Try.underlying4 Try.underlying5 Try.underlying9 Try.underlying61 Try.underlying129 Try.underlying31

end Go.Aff.L01

/- Walking: variables in memory, structs. -/
namespace Go.Aff
set_option linter.unusedVariables false
set_option linter.unusedSimpArgs false

variable {P : Program} {σ σ' : AST} {K : AV → AST → Prop} {KV : AV → Prop} {KS : AST → Prop}

/-- What a place of memory holds. -/
def objCell (o : AObj) (p : List Nat) : Option AV := match o with
  | .cells v => v.at p
  | _ => none
def cellAt (σ : AST) (j : Nat) (p : List Nat) : Option AV := (σ.objs[j]?).bind fun o => objCell o p

theorem cellAt_new {o : AObj} {p : List Nat} : cellAt (σ.push o) σ.objs.length p = objCell o p := by simp [cellAt, AST.push]
theorem cellAt_old {o : AObj} {j : Nat} {p : List Nat} (h : j < σ.objs.length) : cellAt (σ.push o) j p = cellAt σ j p := by simp [cellAt, AST.push, List.getElem?_append_left h]
theorem cellAt_tok {n es j : Nat} {p : List Nat} : cellAt (σ.tok n es) j p = cellAt σ j p := nr rfl
theorem cellAt_setTok {t n es j : Nat} {p : List Nat} : cellAt (σ.setTok t n es) j p = cellAt σ j p := nr rfl
theorem cellAt_growS {tk : Tk} {n es j : Nat} {p : List Nat} : cellAt (growS σ tk n es) j p = cellAt σ j p := by cases tk <;> rfl
theorem objCell_cells {v : AV} {p : List Nat} : objCell (.cells v) p = v.at p := nr rfl
theorem at_agg {ps : List AV} {i : Nat} {p : List Nat} : (AV.agg ps).at (i :: p) = (ps[i]?).bind fun v => v.at p := nr rfl
theorem length_push {o : AObj} : (σ.push o).objs.length = σ.objs.length + 1 := by simp [AST.push]
theorem length_tok {n es : Nat} : (σ.tok n es).objs.length = σ.objs.length := nr rfl
theorem length_setTok {t n es : Nat} : (σ.setTok t n es).objs.length = σ.objs.length := nr rfl
theorem length_growS {tk : Tk} {n es : Nat} : (growS σ tk n es).objs.length = σ.objs.length := by cases tk <;> rfl
theorem length_set {i : Nat} {o : AObj} : (σ.set i o).objs.length = σ.objs.length := by simp [AST.set]

def loadC (P : Program) (t : TypeId) (x : Option AV) (K : AV → Prop) : Prop := match x with
  | some x => fits P t x ∧ K x
  | none => False
theorem load_ptr {t : TypeId} {j : Nat} {p : List Nat} : loadW P σ t (.ptr (some (j, p))) KV = loadC P t (cellAt σ j p) KV := by
  simp only [loadW, cellAt]
  cases h : σ.objs[j]? with
  | none => simp [loadC]
  | some o =>
    cases o with
    | cells v => simp only [Option.bind_some, objCell, loadC]; cases v.at p <;> rfl
    | _ => simp [objCell, loadC]
theorem loadC_some {t : TypeId} {x : AV} : loadC P t (some x) KV = (fits P t x ∧ @Later ⟨KV x⟩) := nr rfl

def fieldAddrC (P : Program) (t : TypeId) (x : Option AV) (j : Nat) (p : List Nat) (i : Nat) (K : AV → Prop) : Prop := match x with
  | some (.agg ps) => match ps[i]? with
    | some x => partIs P t ps i x ∧ 0 < x.size ∧ K (.ptr (some (j, p ++ [i])))
    | none => False
  | _ => False
def fieldAddrP (P : Program) (t : TypeId) (ps : List AV) (x : Option AV) (j : Nat) (p : List Nat) (i : Nat) (K : AV → Prop) : Prop := match x with
  | some x => partIs P t ps i x ∧ 0 < x.size ∧ K (.ptr (some (j, p ++ [i])))
  | none => False
theorem fieldAddr_ptr {t : TypeId} {j i : Nat} {p : List Nat} : fieldAddrW P σ t (.ptr (some (j, p))) i KV = fieldAddrC P t (cellAt σ j p) j p i KV := by
  simp only [fieldAddrW, cellAt]
  cases h : σ.objs[j]? with
  | none => simp [fieldAddrC]
  | some o =>
    cases o with
    | cells v => simp only [Option.bind_some, objCell, fieldAddrC]; cases v.at p <;> rfl
    | _ => simp [objCell, fieldAddrC]
theorem fieldAddrC_agg {t : TypeId} {ps : List AV} {j i : Nat} {p : List Nat} : fieldAddrC P t (some (.agg ps)) j p i KV = fieldAddrP P t ps ps[i]? j p i KV := nr rfl
theorem fieldAddrP_some {t : TypeId} {ps : List AV} {x : AV} {j i : Nat} {p : List Nat} : fieldAddrP P t ps (some x) j p i KV = ((partIs P t ps i x ∧ 0 < x.size) ∧ @Later ⟨KV (.ptr (some (j, p ++ [i])))⟩) := by
  simp [fieldAddrP, Later, and_assoc]
def fieldAddrE (P : Program) (t : TypeId) (ps : List AV) (x : Option AV) (i : Nat) (K : AV → Prop) : Prop := match x with
  | some x => partIs P t ps i x ∧ 0 < x.size ∧ K (.eptr x)
  | none => False
theorem fieldAddr_eptr {t : TypeId} {ps : List AV} {i : Nat} : fieldAddrW P σ t (.eptr (.agg ps)) i KV = fieldAddrE P t ps ps[i]? i KV := nr rfl
theorem fieldAddrE_some {t : TypeId} {ps : List AV} {x : AV} {i : Nat} : fieldAddrE P t ps (some x) i KV = ((partIs P t ps i x ∧ 0 < x.size) ∧ @Later ⟨KV (.eptr x)⟩) := by
  simp [fieldAddrE, Later, and_assoc]
def fieldE (P : Program) (t : TypeId) (ps : List AV) (x : Option AV) (i : Nat) (K : AV → Prop) : Prop := match x with
  | some x => partIs P t ps i x ∧ K x
  | none => False
theorem field_agg {t : TypeId} {ps : List AV} {i : Nat} : fieldW P t (.agg ps) i KV = fieldE P t ps ps[i]? i KV := nr rfl
theorem fieldE_some {t : TypeId} {ps : List AV} {x : AV} {i : Nat} : fieldE P t ps (some x) i KV = (partIs P t ps i x ∧ @Later ⟨KV x⟩) := nr rfl

theorem partIs_of {t : TypeId} {i o : Nat} {T : TypeId} (h : placeOf P t i = some (o, T)) {ps : List AV} {x : AV} : partIs P t ps i x = (o = AV.sizes (ps.take i) ∧ fits P T x) := by
  simp only [partIs, h, Option.some.injEq, Prod.mk.injEq, eq_iff_iff]
  constructor
  · rintro ⟨_, ⟨h1, rfl⟩, h2⟩; exact ⟨h1, h2⟩
  · rintro ⟨h1, h2⟩; exact ⟨T, ⟨h1, rfl⟩, h2⟩

attribute [go_sem] cellAt_new cellAt_tok cellAt_setTok cellAt_growS objCell_cells at_nil at_agg length_push length_tok length_setTok length_growS length_set load_ptr loadC_some fieldAddr_ptr fieldAddrC_agg fieldAddrP_some
attribute [go_sem] fieldAddr_eptr fieldAddrE_some field_agg fieldE_some Option.bind_some List.take_zero List.take_succ_cons Nat.reduceEqDiff Nat.zero_add Nat.zero_lt_one and_self List.map_cons List.map_nil List.append_nil
end Go.Aff

/- Layer 1, walked: lists that are read. -/
namespace Go.Aff.L01
open Go.Proofs Go.Aff
set_option linter.unusedVariables false
set_option maxRecDepth 20000
set_option linter.unusedSimpArgs false
attribute [local go_sem] Try.underlying3 Try.underlying4 Try.underlying5 Try.underlying9 Try.underlying61 Try.underlying129 Try.underlying31 Try.underlying45 fits3 fits9

/-- Items one behind the other, up to the bracket. -/
def readL {α : Type} (one : Nat → α × Int × Int) (s : List UInt8) (p : Nat) (acc : List α) : List α × Int × Int :=
  if p = s.length then ([], 0, 5) else
  if bAt s p = 41 then (acc, ((p + 1 : Nat) : Int), 0) else
  if 512 ≤ acc.length then ([], 0, 4) else
  if (one p).2.2 ≠ 0 then ([], 0, (one p).2.2) else
  if h : (p : Int) < (one p).2.1 ∧ (one p).2.1 ≤ s.length then readL one s (one p).2.1.toNat (acc ++ [(one p).1]) else ([], 0, 5)
termination_by s.length - p
decreasing_by omega

/-- What reading a list comes to. -/
def readR {α : Type} (one : Nat → α × Int × Int) (s : List UInt8) (i : Int) : List α × Int × Int :=
  if i < 0 ∨ (s.length : Int) < i then ([], 0, 3) else
  if i.toNat = s.length then ([], 0, 5) else
  if bAt s i.toNat ≠ 40 then ([], 0, 6) else readL one s (i.toNat + 1) []
def tupL {α : Type} (f : α → AV) (x : List α × Int × Int) : AV := .tuple [if x.1 = [] then .slice .full [] else .slice .none (x.1.map f), .int .i64 x.2.1, .int .i64 x.2.2]
def tk' {α : Type} (l : List α) : Tk := if l = [] then .full else .none

theorem strip_own {k : Nat} {xs : List AV} : (AV.slice (.own k) xs).strip = .slice .none (AV.strips xs) := by simp [AV.strip]
theorem strips_map {α : Type} {f : α → AV} (h : ∀ x, (f x).strip = f x) : ∀ {l : List α}, AV.strips (l.map f) = l.map f
  | [] => rfl
  | x :: r => by simp [AV.strips, h, strips_map h (l := r)]
theorem noRefs_map {α : Type} {f : α → AV} (h : ∀ x, (f x).noRef = true) : ∀ {l : List α}, AV.noRefs (l.map f) = true
  | [] => rfl
  | x :: r => by simp [AV.noRefs, h, noRefs_map h (l := r)]

theorem numR_nat {s : List UInt8} {q : Nat} (h : q ≤ s.length) : numR s q = numP s q := by
  rw [numR, if_neg (by omega)]; simp
theorem textR_nat {s : List UInt8} {q : Nat} (h : q ≤ s.length) : textR s q = textP s q := by
  rw [textR, if_neg (by omega)]; simp
theorem numP_prog {s : List UInt8} {q : Nat} (h : q ≤ s.length) : (numP s q).2.2 = 0 → (q : Int) < (numP s q).2.1 ∧ (numP s q).2.1 ≤ s.length := by
  have hl : lowB s q = true → q < s.length := fun h => by simp [lowB] at h; exact h.1
  unfold numP
  generalize hw : lowB s q = low at *
  generalize hq : (if low = true then q + 1 else q) = r
  have hr : q ≤ r ∧ r ≤ s.length := by rw [← hq]; split; (have := hl (by assumption); omega); omega
  have hel := dend_le hr.2
  have heq : r ≤ dend s r := by unfold dend; omega
  generalize (if low = true then 9223372036854775808 else 9223372036854775807) = most
  unfold numT
  split
  · intro h0; dsimp only at h0; contradiction
  · split
    · intro h0; cases h0
    · split
      · intro h0; cases h0
      · intro _
        rename_i h1 _ _ _
        have := shape_ok (by simpa using h1) hel
        dsimp only; omega
theorem textP_prog {s : List UInt8} {q : Nat} (h : q ≤ s.length) : (textP s q).2.2 = 0 → (q : Int) < (textP s q).2.1 ∧ (textP s q).2.1 ≤ s.length := by
  have hel := dend_le h
  have heq : q ≤ dend s q := by unfold dend; omega
  unfold textP
  split
  · intro h0; dsimp only at h0; contradiction
  · split
    · intro h0; cases h0
    · split
      · intro h0; cases h0
      · intro _
        dsimp only; omega
theorem readNumber_n {s : List UInt8} {q : Nat} (h : q ≤ s.length) (hs : s.length ≤ 9223372036854775807) {σ : AST} {K : AV → AST → Prop} (hK : K (tup3 (numP s q)) σ) : TCalls Try.prog 46 [.str s, .int .i64 q] σ K :=
  readNumber_c (by omega) (by omega) (by rw [numR_nat h]; exact hK)
theorem readText_n {s : List UInt8} {q : Nat} (h : q ≤ s.length) (hs : s.length ≤ 9223372036854775807) {σ : AST} {K : AV → AST → Prop} (hK : K (tupT (textP s q)) σ) : TCalls Try.prog 67 [.str s, .int .i64 q] σ K :=
  readText_c (by omega) (by omega) (by rw [textR_nat h]; exact hK)

theorem readInts_c {s : List UInt8} {i : Int} (hi0 : -9223372036854775808 ≤ i) (hi1 : i ≤ 9223372036854775807) {σ : AST} {K : AV → AST → Prop}
    (hK : K (tupL (AV.int .i64) (readR (numP s) s i)) σ) : TCalls Try.prog 69 [.str s, .int .i64 i, .fn (.func 46) [] []] σ K := by
  refine TCalls.drop ?_
  refine tcalls_walk Try.f69 _ [.tmp 6, .tmp 7, .tmp 8] Try.func69 rfl rfl rfl mixed (Nat.le_of_ble_eq_true rfl) rfl fun hlen => ?_
  have hs : s.length ≤ 9223372036854775807 := hlen (.str s) (by simp)
  have leaf : ∀ x, ((AV.int .i64) x).strip = (AV.int .i64) x ∧ ((AV.int .i64) x).noRef = true := fun x => ⟨by simp [AV.strip], rfl⟩
  have nil : ∀ (a b : Int) (s' : AST), Ext σ s' → K (tupL (AV.int .i64) ([], a, b)) σ → Ext σ s' ∧ (AV.tuple [.slice .full [], .int .i64 a, .int .i64 b]).noRef = true ∧ K (AV.tuple [.slice .full [], .int .i64 a, .int .i64 b]).strip σ := fun a b s' hx h => ⟨hx, rfl, h⟩
  refine awp_seq_k fun KA hKA => ?_
  simp -dsimp only [↓reduceIte, go_sem]
  refine hKA _ _ (awp_seq_k fun KB hKB => ?_)
  have go : ∀ τ : Env, τ 0 = .str s → τ 1 = .int .i64 i → τ 2 = .fn (.func 46) [] [] → ¬ (i < 0 ∨ (s.length : Int) < i) → i.toNat ≠ s.length → bAt s i.toNat = 40 → KB τ σ := by
    intro τ t0 t1 t2 hok hne h40
    rw [readR, if_neg hok, if_neg hne, if_neg (by simp [h40])] at hK
    have hi : (i.toNat : Int) = i := by omega
    generalize hp : i.toNat = p at hi hK hne
    rw [← hi] at t1
    refine hKB _ _ ?_
    simp -dsimp only [↓reduceIte, go_sem, t0, t1, t2]
    rw [show IntKind.i64.wrap ((p : Int) + 1) = ((p + 1 : Nat) : Int) by rw [wrap_i64 (by omega) (by omega)]; omega]
    refine awp_rounds (fun (x : Nat × List Int) τ s' => x.1 ≤ s.length ∧ x.2.length ≤ 512 ∧ Ext σ s' ∧ τ 0 = .str s ∧ τ 1 = .int .i64 x.1 ∧ τ 2 = .fn (.func 46) [] [] ∧
      K (tupL (AV.int .i64) (readL (numP s) s x.1 x.2)) σ ∧ ∃ tk, (x.2 = [] ∧ tk = .full ∨ x.2 ≠ [] ∧ ∃ k, tk = .own k ∧ σ.toks.length ≤ k) ∧ canApp s' tk x.2.length 1 ∧ τ 9 = .slice tk (x.2.map (AV.int .i64))) (fun x => s.length - x.1) (p + 1, []) ?_ ?_
    · refine ⟨by dsimp only; omega, by simp, Ext.refl _, ?_, ?_, ?_, hK, .full, .inl ⟨rfl, rfl⟩, trivial, ?_⟩ <;> simp only [go_sem, t0, t1, t2] <;> rfl
    · rintro ⟨q, acc⟩ τ s' ⟨hq, hacc, hx, t0, t1, t2, hK, tk, htk, hcan, t9⟩
      dsimp only at hq hacc t1 hK htk hcan t9
      have htn : tkNew σ tk := by
        rcases htk with ⟨_, h⟩ | ⟨_, h⟩
        · exact .inl h
        · exact .inr h
      rw [readL] at hK
      simp -dsimp only [↓reduceIte, go_sem, t0, t1, t2, t9]
      refine arr_intro fun _ => ?_
      simp -dsimp only [↓reduceIte, go_sem, t0, t1, t2, t9]
      refine boolW_split (fun h1 => ?_) (fun h1 => ?_)
      · have h1 : q = s.length := by simp at h1; omega
        rw [if_pos h1] at hK
        simp -dsimp only [↓reduceIte, go_sem, t0, t1, t2, t9]
        exact nil _ _ _ hx hK
      · have h1 : ¬ q = s.length := by simp at h1; omega
        rw [if_neg h1] at hK
        obtain ⟨b, hb⟩ := get_lt (l := s) (i := q) (by omega)
        rw [bAt_of hb] at hK
        simp -dsimp only [↓reduceIte, go_sem, t0, t1, t2, t9]
        refine nth_get hb ?_
        simp -dsimp only [↓reduceIte, go_sem, t0, t1, t2, t9]
        refine boolW_split (fun h2 => ?_) (fun h2 => ?_)
        · have h2 : b.toNat = 41 := by simp at h2; omega
          rw [if_pos h2] at hK
          simp -dsimp only [↓reduceIte, go_sem, t0, t1, t2, t9]
          rw [show IntKind.i64.wrap ((q : Int) + 1) = ((q + 1 : Nat) : Int) by rw [wrap_i64 (by omega) (by omega)]; omega]
          refine ⟨hx, ?_, ?_⟩
          · simp only [AV.noRef, AV.noRefs, noRefs_map (fun x => (leaf x).2), Bool.and_true]
          · simp only [AV.strip, AV.strips]
            rcases htk with ⟨rfl, rfl⟩ | ⟨hn, k, rfl, _⟩
            · exact hK
            · rw [strip_own, strips_map (fun x => (leaf x).1)]
              rw [tupL, if_neg hn] at hK
              exact hK
        · have h2 : ¬ b.toNat = 41 := by simp at h2; omega
          rw [if_neg h2] at hK
          simp -dsimp only [↓reduceIte, go_sem, t0, t1, t2, t9]
          refine arr_intro fun _ => ?_
          simp only [List.length_map]
          simp -dsimp only [↓reduceIte, go_sem, t0, t1, t2, t9]
          refine boolW_split (fun h3 => ?_) (fun h3 => ?_)
          · have h3 : 512 ≤ acc.length := by simp at h3; omega
            rw [if_pos h3] at hK
            simp -dsimp only [↓reduceIte, go_sem, t0, t1, t2, t9]
            exact nil _ _ _ hx hK
          · have h3 : ¬ 512 ≤ acc.length := by simp at h3; omega
            rw [if_neg h3] at hK
            simp -dsimp only [↓reduceIte, go_sem, t0, t1, t2, t9]
            refine readNumber_n (by omega) (by omega) ?_
            have hpr := numP_prog (s := s) (q := q) (by omega)
            generalize numP s q = res at hK hpr
            obtain ⟨x, nx, e⟩ := res
            dsimp only at hK hpr
            simp only [tup3]
            simp -dsimp only [↓reduceIte, go_sem, t0, t1, t2, t9]
            refine boolW_split (fun h4 => ?_) (fun h4 => ?_)
            · have h4 : e ≠ 0 := by simpa using h4
              rw [if_pos h4] at hK
              simp -dsimp only [↓reduceIte, go_sem, t0, t1, t2, t9]
              exact nil _ _ _ hx hK
            · have h4 : e = 0 := by simpa using h4
              obtain ⟨hp1, hp2⟩ := hpr h4
              rw [if_neg (by simp [h4]), dif_pos ⟨hp1, hp2⟩] at hK
              simp -dsimp only [↓reduceIte, go_sem, t0, t1, t2, t9]
              refine build_slice E25 rfl (by decide) ?_ ?_
              · intro v hv
                simp at hv; subst hv
                exact ⟨by simp only [go_sem], rfl⟩
              simp -dsimp only [↓reduceIte, go_sem, t0, t1, t2, t9]
              refine append_slice E25 (by rfl) (by simpa using hcan) (by intro v hv; simp at hv; subst hv; simp only [go_sem]) (by intro v hv; simp at hv; obtain ⟨y, _, rfl⟩ := hv; simp only [go_sem]) (by simp; omega) (by simp [maxL]; omega) ?_
              simp -dsimp only [↓reduceIte, go_sem, t0, t1, t2, t9]
              refine later_intro ⟨(nx.toNat, acc ++ [x]), by dsimp only; omega, ?_⟩
              refine ⟨by dsimp only; omega, by simp; omega, hx.grow htn, ?_, ?_, ?_, hK, growT s' tk, ?_, ?_, ?_⟩ <;> (try simp only [go_sem, t0, t1, t2, t9])
              · rw [show ((nx.toNat : Nat) : Int) = nx by omega]
              · refine .inr ⟨by simp, ?_⟩
                rcases htn.grow hx with h | h
                · rcases htk with ⟨_, rfl⟩ | ⟨_, k, rfl, _⟩ <;> simp [growT] at h
                · exact h
              · have := canApp_grow (n := acc.length + 1) (es := 1) hcan
                simpa using this
              · simp
  have bad : i < 0 ∨ (s.length : Int) < i → K (tupL (AV.int .i64) ([], 0, 3)) σ := fun h => by
    rw [readR, if_pos h] at hK; exact hK
  simp -dsimp only [↓reduceIte, go_sem]
  refine guardV_split (fun h1 => ?_) (fun h1 => ?_) <;> (try rw [h1])
  · have h1 : ¬ i < 0 := by simpa using h1
    simp -dsimp only [↓reduceIte, go_sem]
    refine arr_intro fun _ => ?_
    simp -dsimp only [↓reduceIte, go_sem]
    refine boolW_split (fun h2 => ?_) (fun h2 => ?_)
    · have h2 : (s.length : Int) < i := by simpa using h2
      simp -dsimp only [↓reduceIte, go_sem]
      exact nil _ _ _ (Ext.refl _) (bad (.inr h2))
    · have h2 : ¬ (s.length : Int) < i := by simpa using h2
      have hok : ¬ (i < 0 ∨ (s.length : Int) < i) := by omega
      have hi : (i.toNat : Int) = i := by omega
      simp -dsimp only [↓reduceIte, go_sem]
      refine arr_intro fun _ => ?_
      simp -dsimp only [↓reduceIte, go_sem]
      refine boolW_split (fun h3 => ?_) (fun h3 => ?_)
      · have h3 : i.toNat = s.length := by simp at h3; omega
        rw [readR, if_neg hok, if_pos h3] at hK
        simp -dsimp only [↓reduceIte, go_sem]
        exact nil _ _ _ (Ext.refl _) hK
      · have h3 : i.toNat ≠ s.length := by simp at h3; omega
        obtain ⟨b, hb⟩ := get_lt (l := s) (i := i.toNat) (by omega)
        have hbb := bAt_of hb
        simp -dsimp only [↓reduceIte, go_sem]
        rw [← hi]
        refine nth_get hb ?_
        simp -dsimp only [↓reduceIte, go_sem]
        refine boolW_split (fun h4 => ?_) (fun h4 => ?_)
        · have h4 : bAt s i.toNat ≠ 40 := by rw [hbb]; simp at h4; omega
          rw [readR, if_neg hok, if_neg h3, if_pos h4] at hK
          simp -dsimp only [↓reduceIte, go_sem]
          exact nil _ _ _ (Ext.refl _) hK
        · have h4 : bAt s i.toNat = 40 := by rw [hbb]; simp at h4; omega
          simp -dsimp only [↓reduceIte, go_sem]
          refine go _ ?_ ?_ ?_ hok h3 h4 <;> simp only [go_sem, hi]
  · have h1 : i < 0 := by simpa using h1
    simp -dsimp only [↓reduceIte, go_sem]
    exact nil _ _ _ (Ext.refl _) (bad (.inl h1))

end Go.Aff.L01

/- Layer 1, walked: the reference's lists that are read. -/
namespace Go.Aff.L01
open Go.Proofs Go.Aff
set_option linter.unusedVariables false
set_option maxRecDepth 20000
set_option linter.unusedSimpArgs false
attribute [local go_sem] Try.underlying3 Try.underlying4 Try.underlying5 Try.underlying9 Try.underlying61 Try.underlying129 Try.underlying31 Try.underlying45 fits3 fits9

def openE (s : List UInt8) (i : Int) : Int := if i < 0 ∨ (s.length : Int) < i then 3 else if i.toNat = s.length then 5 else if bAt s i.toNat ≠ 40 then 6 else 0
theorem open_ok {s : List UInt8} {i : Int} (h : openE s i = 0) : ¬ (i < 0 ∨ (s.length : Int) < i) ∧ i.toNat ≠ s.length ∧ bAt s i.toNat = 40 := by
  unfold openE at h
  split at h
  · cases h
  · split at h
    · cases h
    · split at h
      · cases h
      · rename_i a b c; exact ⟨a, b, Classical.not_not.1 c⟩
theorem open_bad {α : Type} {one : Nat → α × Int × Int} {s : List UInt8} {i : Int} (h : openE s i ≠ 0) : readR one s i = ([], 0, openE s i) := by
  unfold openE at h ⊢; unfold readR
  split
  · rfl
  · split
    · rfl
    · split
      · rfl
      · rename_i a b c; rw [if_neg a, if_neg b, if_neg c] at h; exact absurd rfl h

end Go.Aff.L01

/- Layer 1, walked: lists compared; lists that are read, by their names. -/
namespace Go.Aff.L01
open Go.Proofs Go.Aff
set_option linter.unusedVariables false
set_option maxRecDepth 20000
set_option linter.unusedSimpArgs false
attribute [local go_sem] Try.underlying3 Try.underlying4 Try.underlying5 Try.underlying9 Try.underlying61 Try.underlying129 Try.underlying31 Try.underlying45 fits3 fits9

theorem readNumbers_c {s : List UInt8} {i : Int} (hi0 : -9223372036854775808 ≤ i) (hi1 : i ≤ 9223372036854775807) {σ : AST} {K : AV → AST → Prop}
    (hK : K (tupL (AV.int .i64) (readR (numP s) s i)) σ) : TCalls Try.prog 51 [.str s, .int .i64 i] σ K := by
  refine tcalls_walk Try.f51 _ [.tmp 4, .tmp 5, .tmp 6] Try.func51 rfl rfl rfl mixed (Nat.le_of_ble_eq_true rfl) rfl fun hlen => ?_
  simp -dsimp only [↓reduceIte, go_sem]
  refine readInts_c hi0 hi1 ?_
  unfold tupL at hK ⊢
  generalize readR (numP s) s i = r at hK ⊢
  obtain ⟨l, n, e⟩ := r
  dsimp only at hK ⊢
  split
  · rename_i h; rw [if_pos h] at hK
    simp -dsimp only [↓reduceIte, go_sem]
    exact hK
  · rename_i h; rw [if_neg h] at hK
    simp -dsimp only [↓reduceIte, go_sem]
    exact hK
end Go.Aff.L01

/- Layer 1, walked: LayBack. -/
namespace Go.Aff.L01
open Go.Proofs Go.Aff
set_option linter.unusedVariables false
set_option maxRecDepth 20000
set_option linter.unusedSimpArgs false
theorem fits25 {v : AV} : fits Try.prog 45 v = (v.isAgg = false ∧ v.size = 1) := fits_leaf (by kernel_rfl) (by kernel_rfl)
attribute [local go_sem] Try.underlying3 Try.underlying4 Try.underlying5 Try.underlying9 Try.underlying61 Try.underlying129 Try.underlying31 Try.underlying45 fits3 fits9 fits25

theorem text_back {x y t : List UInt8} (ht : ¬ 16384 < t.length) : textP (x ++ (textS t ++ y)) x.length = (t, ((x.length + (textS t).length : Nat) : Int), 0) := by
  have c58 : isD 58 = false := by decide
  have e : x ++ (textS t ++ y) = x ++ (dg t.length ++ 58 :: (t ++ y)) := by simp [textS]
  have hd := dend_laid (x := x) (y := t ++ y) (c := 58) t.length c58
  have hg := digs_laid (x := x) (y := t ++ y) (c := 58) t.length c58
  have hsh := shape_laid (x := x) (y := t ++ y) (c := 58) t.length c58
  rw [show (58 : UInt8).toNat = 58 from rfl] at hsh
  rw [textP, e, hd, hg, val_dg, if_neg (not_not_intro hsh), if_neg ht, if_neg (by simp; omega)]
  have e2 : x ++ (dg t.length ++ 58 :: (t ++ y)) = (x ++ dg t.length ++ [58]) ++ (t ++ y) := by simp
  have hl : (x ++ dg t.length ++ [(58 : UInt8)]).length = x.length + (dg t.length).length + 1 := by simp; omega
  rw [e2]
  simp only [Prod.mk.injEq, and_true]
  constructor
  · rw [show x.length + (dg t.length).length + 1 + t.length = (x ++ dg t.length ++ [(58 : UInt8)] ++ t).length by simp; omega, ← List.append_assoc, List.take_left, ← hl, List.drop_left]
  · simp [textS]; omega

theorem readL_back {α : Type} {f : α → List UInt8} {one : Nat → α × Int × Int} {S y : List UInt8} {p : α → Prop}
    (hone : ∀ (u v : List UInt8) (a : α), p a → S = u ++ (f a ++ v) → (∃ b r, f a = b :: r ∧ b.toNat ≠ 41) ∧ one u.length = (a, ((u.length + (f a).length : Nat) : Int), 0)) :
    ∀ (l : List α) (acc : List α) (u : List UInt8), (∀ a ∈ l, p a) → S = u ++ (l.flatMap f ++ 41 :: y) → acc.length + l.length ≤ 512 → readL one S u.length acc = (acc ++ l, ((u.length + (l.flatMap f).length + 1 : Nat) : Int), 0)
  | [], acc, u, hp, hS, hl => by
    rw [readL, if_neg (by rw [hS]; simp), if_pos (by rw [hS]; simp only [List.flatMap_nil, List.nil_append]; rw [bAt_left]; rfl)]
    simp
  | a :: r, acc, u, hp, hS, hl => by
    have hS2 : S = u ++ (f a ++ (r.flatMap f ++ 41 :: y)) := by rw [hS]; simp
    obtain ⟨⟨b, t, hb, h41⟩, h1⟩ := hone u _ a (hp a (by simp)) hS2
    have hbt : bAt S u.length = b.toNat := by rw [hS2, hb, List.cons_append, bAt_left]
    have hlen : u.length + (f a).length ≤ S.length := by rw [hS2]; simp
    have hpos : 0 < (f a).length := by rw [hb]; simp
    simp only [List.length_cons] at hl
    rw [readL, if_neg (by rw [hS2, hb]; simp), if_neg (by rw [hbt]; exact h41), if_neg (by omega), h1]
    dsimp only
    rw [if_neg (by simp), dif_pos ⟨by omega, by omega⟩]
    have e : (((u.length + (f a).length : Nat) : Int)).toNat = (u ++ f a).length := by rw [Int.toNat_natCast, List.length_append]
    rw [e, readL_back (y := y) hone r (acc ++ [a]) (u ++ f a) (fun x hx => hp x (by simp [hx])) (by rw [hS2]; simp) (by simp; omega)]
    simp; omega

theorem list_back {α : Type} {f : α → List UInt8} {one : List UInt8 → Nat → α × Int × Int} {x y : List UInt8} {l : List α} {p : α → Prop} (hp : ∀ a ∈ l, p a) (hl : ¬ 512 < l.length)
    (hone : ∀ (u v : List UInt8) (a : α), p a → (∃ b r, f a = b :: r ∧ b.toNat ≠ 41) ∧ one (u ++ (f a ++ v)) u.length = (a, ((u.length + (f a).length : Nat) : Int), 0)) :
    readR (one (x ++ (laidAll f l ++ y))) (x ++ (laidAll f l ++ y)) x.length = (l, ((x.length + (laidAll f l).length : Nat) : Int), 0) := by
  have e : x ++ (laidAll f l ++ y) = (x ++ [40]) ++ (l.flatMap f ++ 41 :: y) := by simp [laidAll, part]
  rw [readR, if_neg (by simp; omega), if_neg (by simp [laidAll, part]), if_neg (by
    rw [show x ++ (laidAll f l ++ y) = x ++ 40 :: (l.flatMap f ++ 41 :: y) by simp [laidAll, part]]
    simp only [Int.toNat_natCast]; rw [bAt_left]; simp)]
  have h := readL_back (f := f) (one := one (x ++ (laidAll f l ++ y))) (S := x ++ (laidAll f l ++ y)) (y := y) (p := p) (fun u v a ha hS => by rw [hS]; exact hone u v a ha) l [] (x ++ [40]) hp e (by simp; omega)
  rw [show (x ++ [(40 : UInt8)]).length = (x.length : Int).toNat + 1 by simp] at h
  rw [h]
  simp [laidAll, part]; omega

theorem numS_first (n : Int) : ∃ b r, numS n = b :: r ∧ b.toNat ≠ 41 := by
  unfold numS
  split
  · exact ⟨45, _, rfl, by decide⟩
  · obtain ⟨b, r, hb⟩ := List.exists_cons_of_ne_nil (dg_ne (n := n.natAbs))
    have := dg_isD n.natAbs b (by rw [hb]; simp)
    simp [isD] at this
    exact ⟨b, r ++ [59], by rw [hb]; rfl, by omega⟩
theorem textS_first (t : List UInt8) : ∃ b r, textS t = b :: r ∧ b.toNat ≠ 41 := by
  unfold textS
  obtain ⟨b, r, hb⟩ := List.exists_cons_of_ne_nil (dg_ne (n := t.length))
  have := dg_isD t.length b (by rw [hb]; simp)
  simp [isD] at this
  exact ⟨b, r ++ [58] ++ t, by rw [hb]; rfl, by omega⟩

theorem ints_back {x y : List UInt8} {l : List Int} (h : ∀ n ∈ l, -9223372036854775808 ≤ n ∧ n ≤ 9223372036854775807) (hl : ¬ 512 < l.length) :
    readR (numP (x ++ (laidAll numS l ++ y))) (x ++ (laidAll numS l ++ y)) x.length = (l, ((x.length + (laidAll numS l).length : Nat) : Int), 0) :=
  list_back (p := fun n => -9223372036854775808 ≤ n ∧ n ≤ 9223372036854775807) h hl fun u v a ha => ⟨numS_first a, num_back ha.1 ha.2⟩
theorem texts_back {x y : List UInt8} {l : List (List UInt8)} (h : ∀ t ∈ l, ¬ 16384 < t.length) (hl : ¬ 512 < l.length) :
    readR (textP (x ++ (laidAll textS l ++ y))) (x ++ (laidAll textS l ++ y)) x.length = (l, ((x.length + (laidAll textS l).length : Nat) : Int), 0) :=
  list_back (p := fun t => ¬ 16384 < t.length) h hl fun u v a ha => ⟨textS_first a, text_back ha⟩

end Go.Aff.L01

