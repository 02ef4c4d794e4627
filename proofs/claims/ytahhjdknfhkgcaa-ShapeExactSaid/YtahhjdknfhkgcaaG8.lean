import Derived.Test.YtahhjdknfhkgcaaG7
import Derived.RangeFuncLeaves

set_option linter.unusedSimpArgs false
set_option linter.unusedVariables false

namespace Go.Aff.L01
open Go.Proofs Go.Aff
attribute [local go_sem] Try.underlying5 Try.underlying9 Try.underlying123 Try.underlying43 fits9

theorem listText_c {l : List (List UInt8)} {tk0 : Tk} {σ : AST} {K : AV → AST → Prop} (hK : K (textsR l) σ) : TCalls Try.prog 115 [.slice tk0 (l.map AV.str), .fn (.func 116) [] []] σ K := by
  refine TCalls.drop ?_
  refine tcalls_walk Try.f115 _ [.tmp 4, .tmp 5] Try.func115 rfl rfl rfl mixed (Nat.le_of_ble_eq_true rfl) rfl fun hlen => ?_
  have hs : l.length ≤ 9223372036854775807 := by
    have := hlen (.slice tk0 (l.map AV.str)) (by simp)
    simp only [lenOk, List.length_map, maxL] at this; exact this
  have bad : (512 < l.length ∨ ∃ s ∈ l, 16384 < s.length) → K (.tuple [.str [], .int .i64 4]) σ := fun h => by
    rw [textsR, if_pos h] at hK; exact hK
  refine awp_seq_k fun KA hKA => ?_
  simp -dsimp only [↓reduceIte, go_sem]
  refine hKA _ _ ?_
  simp -dsimp only [↓reduceIte, go_sem]
  refine arr_intro fun _ => ?_
  simp only [List.length_map]
  simp -dsimp only [↓reduceIte, go_sem]
  refine boolW_split (fun hb => ?_) (fun hb => ?_)
  · have hb : 512 < l.length := by simp at hb; omega
    simp -dsimp only [↓reduceIte, go_sem]
    exact ⟨Ext.refl _, rfl, bad (.inl hb)⟩
  · have hb : ¬ 512 < l.length := by simp at hb; omega
    simp -dsimp only [↓reduceIte, go_sem]
    refine build_byte E51 agg5 (by decide) (by decide) ?_
    simp -dsimp only [↓reduceIte, go_sem]
    refine arr_intro fun _ => ?_
    simp only [List.length_map]
    simp -dsimp only [↓reduceIte, go_sem]
    refine awp_rounds (fun (i : Nat) τ s => i ≤ l.length ∧ Ext σ s ∧ τ 1 = .fn (.func 116) [] [] ∧ τ 15 = .slice tk0 (l.map AV.str) ∧ τ 16 = .int .i64 l.length ∧ τ 17 = .int .i64 i ∧ (∀ x ∈ l.take i, ¬ 16384 < x.length) ∧
      ∃ tk, tkNew σ tk ∧ canApp s tk (part textS l i).length 1 ∧ τ 6 = .slice tk (u8s (part textS l i))) (fun i => l.length - i) 0 ?_ ?_
    · refine ⟨by omega, Ext.refl _, ?_, ?_, ?_, ?_, by simp, .full, .inl rfl, trivial, ?_⟩ <;> simp only [go_sem] <;> first | rfl | (rw [part_zero]; rfl)
    · rintro i τ s ⟨hi, hx, t1, t15, t16, t17, hsm, tk, htk, hcan, t6⟩
      have hcat := part_len' (f := textS) (l := l) (m := 16405) (i := i) (fun x hx => textS_len (hsm x hx)) hi
      simp -dsimp only [↓reduceIte, go_sem, t1, t6, t15, t16, t17]
      refine boolW_split (fun h1 => ?_) (fun h1 => ?_)
      · have h1 : i < l.length := by simp at h1; omega
        obtain ⟨x, hn⟩ := get_lt h1
        simp -dsimp only [↓reduceIte, go_sem, t1, t6, t15, t16, t17]
        refine nth_get hn ?_
        simp -dsimp only [↓reduceIte, go_sem, t1, t6, t15, t16, t17]
        refine text_c ?_
        split
        · rename_i hbig
          simp -dsimp only [↓reduceIte, go_sem, t1, t6, t15, t16, t17]
          exact ⟨hx, rfl, bad (.inr ⟨x, List.mem_iff_getElem?.2 ⟨i, hn⟩, hbig⟩)⟩
        · rename_i hbig
          simp -dsimp only [↓reduceIte, go_sem, t1, t6, t15, t16, t17]
          have hnl := textS_len hbig
          refine append_text E51 Try.underlying9 hcan (by omega) (by simp only [maxL]; omega) ?_
          simp -dsimp only [↓reduceIte, go_sem, t1, t6, t15, t16, t17]
          rw [wrap_i64 (by omega) (by omega)]
          refine later_intro ⟨i + 1, by omega, ?_⟩
          rw [part_succ hn, List.length_append]
          refine ⟨by omega, hx.grow htk, ?_, ?_, ?_, ?_, ?_, growT s tk, htk.grow hx, canApp_grow hcan, ?_⟩ <;> try (simp only [go_sem, t1, t15, t16, t17] <;> rfl)
          intro y hy
          rw [List.take_add_one, hn] at hy
          rcases List.mem_append.1 hy with hy | hy
          · exact hsm y hy
          · simp at hy; subst hy; exact hbig
      · have h1 : i = l.length := by simp at h1; omega
        subst h1
        rw [List.take_length] at hsm
        rw [textsR, if_neg (by rintro (h | ⟨x, hx, h⟩); exact hb h; exact hsm x hx h)] at hK
        simp -dsimp only [↓reduceIte, go_sem, t1, t6, t15, t16, t17]
        refine build_byte E51 agg5 (by decide) (by decide) ?_
        simp -dsimp only [↓reduceIte, go_sem, t1, t6, t15, t16, t17]
        refine append_bytes E51 S51 hcan (by simp; omega) (by simp [maxL]; omega) ?_
        simp -dsimp only [↓reduceIte, go_sem, t1, t6, t15, t16, t17]
        exact ⟨hx.grow htk, rfl, hK⟩

theorem texts_c {l : List (List UInt8)} {tk0 : Tk} {σ : AST} {K : AV → AST → Prop} (hK : K (textsR l) σ) : TCalls Try.prog 102 [.slice tk0 (l.map AV.str)] σ K := by
  refine tcalls_walk Try.f102 _ [.tmp 2, .tmp 3] Try.func102 rfl rfl rfl mixed (Nat.le_of_ble_eq_true rfl) rfl fun hlen => ?_
  simp -dsimp only [↓reduceIte, go_sem]
  refine listText_c ?_
  unfold textsR at hK ⊢
  split
  · rename_i h
    rw [if_pos h] at hK
    simp -dsimp only [↓reduceIte, go_sem]
    exact hK
  · rename_i h
    rw [if_neg h] at hK
    simp -dsimp only [↓reduceIte, go_sem]
    exact hK

end Go.Aff.L01

namespace Go.Aff.L31
open Go
theorem less_lt {x y : List UInt8} : Op.bytesLess x y = true ↔ x < y := by
  induction x generalizing y with
  | nil => cases y <;> simp [Op.bytesLess]
  | cons a x ih =>
    cases y with
    | nil => simp [Op.bytesLess]
    | cons b y =>
      rw [Op.bytesLess, List.cons_lt_cons_iff]
      by_cases h1 : a < b
      · simp [h1]
      · by_cases h2 : a = b
        · subst h2; simp [h1, ih]
        · simp [h1, h2]
theorem lt_of_leqS {s t : List UInt8} (h : L21.leqS s t = false) : t < s := by
  unfold L21.leqS at h
  rw [Bool.or_eq_false_iff] at h
  obtain ⟨h1, h2⟩ := h
  have h3 : ¬ s < t := fun h => by rw [less_lt.2 h] at h1; cases h1
  have h4 : s ≠ t := by simpa using h2
  rcases List.le_iff_lt_or_eq.1 (List.not_lt.1 h3) with q | q
  · exact q
  · exact absurd q.symm h4
theorem names_lt {l : List (List UInt8)} (h : L21.NamesOk l) : ∀ (d : Nat) {i : Nat} {x y : List UInt8}, l[i]? = some x → l[i + 1 + d]? = some y → x < y
  | 0, i, x, y, hx, hy => lt_of_leqS ((h (i + 1) y hy).2 x (by omega) hx)
  | d + 1, i, x, y, hx, hy => by
    have hl := (List.getElem?_eq_some_iff.1 hy).1
    have hz : l[i + 1 + d]? = some l[i + 1 + d] := List.getElem?_eq_getElem (by omega)
    exact List.lt_trans (names_lt h d hx hz) (lt_of_leqS ((h (i + 1 + (d + 1)) y hy).2 _ (by omega) (by rw [show i + 1 + (d + 1) - 1 = i + 1 + d by omega]; exact hz)))
theorem names_new {l : List (List UInt8)} (h : L21.NamesOk l) {q : Nat} {z : List UInt8} (hz : l[q]? = some z) : ¬ z ∈ l.take q := by
  intro hm
  obtain ⟨k, hk⟩ := List.mem_iff_getElem?.1 hm
  rw [List.getElem?_take] at hk
  split at hk
  · exact List.lt_irrefl _ (names_lt h (q - k - 1) hk (by rw [show k + 1 + (q - k - 1) = q by omega]; exact hz))
  · cases hk
end Go.Aff.L31

namespace Go.Aff

variable {P : Program} {σ σ' : AST} {K : AV → AST → Prop} {KV : AV → Prop} {KS : AST → Prop}

def objCell (o : AObj) (p : List Nat) : Option AV := match o with
  | .cells v => v.at p
  | _ => none
def cellAt (σ : AST) (j : Nat) (p : List Nat) : Option AV := (σ.objs[j]?).bind fun o => objCell o p

theorem cellAt_new {o : AObj} {p : List Nat} : cellAt (σ.push o) σ.objs.length p = objCell o p := by simp [cellAt, AST.push]
theorem cellAt_tok {n es j : Nat} {p : List Nat} : cellAt (σ.tok n es) j p = cellAt σ j p := nr rfl
theorem cellAt_setTok {t n es j : Nat} {p : List Nat} : cellAt (σ.setTok t n es) j p = cellAt σ j p := nr rfl
theorem cellAt_growS {tk : Tk} {n es j : Nat} {p : List Nat} : cellAt (growS σ tk n es) j p = cellAt σ j p := by cases tk <;> rfl
theorem objCell_cells {v : AV} {p : List Nat} : objCell (.cells v) p = v.at p := nr rfl
theorem at_agg {ps : List AV} {i : Nat} {p : List Nat} : (AV.agg ps).at (i :: p) = (ps[i]?).bind fun v => v.at p := nr rfl
theorem length_push {o : AObj} : (σ.push o).objs.length = σ.objs.length + 1 := by simp [AST.push]
theorem length_tok {n es : Nat} : (σ.tok n es).objs.length = σ.objs.length := nr rfl
theorem length_setTok {t n es : Nat} : (σ.setTok t n es).objs.length = σ.objs.length := nr rfl
theorem length_growS {tk : Tk} {n es : Nat} : (growS σ tk n es).objs.length = σ.objs.length := by cases tk <;> rfl
theorem length_set {i : Nat} {o : AObj} : (σ.set i o).objs.length = σ.objs.length := by simp [AST.set]

def loadC (P : Program) (t : TypeId) (x : Option AV) (K : AV → Prop) : Prop := match x with
  | some x => fits P t x ∧ K x
  | none => False
theorem load_ptr {t : TypeId} {j : Nat} {p : List Nat} : loadW P σ t (.ptr (some (j, p))) KV = loadC P t (cellAt σ j p) KV := by
  simp only [loadW, cellAt]
  cases h : σ.objs[j]? with
  | none => simp [loadC]
  | some o =>
    cases o with
    | cells v => simp only [Option.bind_some, objCell, loadC]; cases v.at p <;> rfl
    | _ => simp [objCell, loadC]
theorem loadC_some {t : TypeId} {x : AV} : loadC P t (some x) KV = (fits P t x ∧ @Later ⟨KV x⟩) := nr rfl

def fieldAddrC (P : Program) (t : TypeId) (x : Option AV) (j : Nat) (p : List Nat) (i : Nat) (K : AV → Prop) : Prop := match x with
  | some (.agg ps) => match ps[i]? with
    | some x => partIs P t ps i x ∧ 0 < x.size ∧ K (.ptr (some (j, p ++ [i])))
    | none => False
  | _ => False
def fieldAddrP (P : Program) (t : TypeId) (ps : List AV) (x : Option AV) (j : Nat) (p : List Nat) (i : Nat) (K : AV → Prop) : Prop := match x with
  | some x => partIs P t ps i x ∧ 0 < x.size ∧ K (.ptr (some (j, p ++ [i])))
  | none => False
theorem fieldAddr_ptr {t : TypeId} {j i : Nat} {p : List Nat} : fieldAddrW P σ t (.ptr (some (j, p))) i KV = fieldAddrC P t (cellAt σ j p) j p i KV := by
  simp only [fieldAddrW, cellAt]
  cases h : σ.objs[j]? with
  | none => simp [fieldAddrC]
  | some o =>
    cases o with
    | cells v => simp only [Option.bind_some, objCell, fieldAddrC]; cases v.at p <;> rfl
    | _ => simp [objCell, fieldAddrC]
theorem fieldAddrC_agg {t : TypeId} {ps : List AV} {j i : Nat} {p : List Nat} : fieldAddrC P t (some (.agg ps)) j p i KV = fieldAddrP P t ps ps[i]? j p i KV := nr rfl
theorem fieldAddrP_some {t : TypeId} {ps : List AV} {x : AV} {j i : Nat} {p : List Nat} : fieldAddrP P t ps (some x) j p i KV = ((partIs P t ps i x ∧ 0 < x.size) ∧ @Later ⟨KV (.ptr (some (j, p ++ [i])))⟩) := by
  simp [fieldAddrP, Later, and_assoc]
def fieldAddrE (P : Program) (t : TypeId) (ps : List AV) (x : Option AV) (i : Nat) (K : AV → Prop) : Prop := match x with
  | some x => partIs P t ps i x ∧ 0 < x.size ∧ K (.eptr x)
  | none => False
theorem fieldAddr_eptr {t : TypeId} {ps : List AV} {i : Nat} : fieldAddrW P σ t (.eptr (.agg ps)) i KV = fieldAddrE P t ps ps[i]? i KV := nr rfl
theorem fieldAddrE_some {t : TypeId} {ps : List AV} {x : AV} {i : Nat} : fieldAddrE P t ps (some x) i KV = ((partIs P t ps i x ∧ 0 < x.size) ∧ @Later ⟨KV (.eptr x)⟩) := by
  simp [fieldAddrE, Later, and_assoc]
def fieldE (P : Program) (t : TypeId) (ps : List AV) (x : Option AV) (i : Nat) (K : AV → Prop) : Prop := match x with
  | some x => partIs P t ps i x ∧ K x
  | none => False
theorem field_agg {t : TypeId} {ps : List AV} {i : Nat} : fieldW P t (.agg ps) i KV = fieldE P t ps ps[i]? i KV := nr rfl
theorem fieldE_some {t : TypeId} {ps : List AV} {x : AV} {i : Nat} : fieldE P t ps (some x) i KV = (partIs P t ps i x ∧ @Later ⟨KV x⟩) := nr rfl

theorem partIs_of {t : TypeId} {i o : Nat} {T : TypeId} (h : placeOf P t i = some (o, T)) {ps : List AV} {x : AV} : partIs P t ps i x = (o = AV.sizes (ps.take i) ∧ fits P T x) := by
  simp only [partIs, h, Option.some.injEq, Prod.mk.injEq, eq_iff_iff]
  constructor
  · rintro ⟨_, ⟨h1, rfl⟩, h2⟩; exact ⟨h1, h2⟩
  · rintro ⟨h1, h2⟩; exact ⟨T, ⟨h1, rfl⟩, h2⟩

attribute [go_sem] cellAt_new cellAt_tok cellAt_setTok cellAt_growS objCell_cells at_nil at_agg length_push length_tok length_setTok length_growS length_set load_ptr loadC_some fieldAddr_ptr fieldAddrC_agg fieldAddrP_some
attribute [go_sem] fieldAddr_eptr fieldAddrE_some field_agg fieldE_some Option.bind_some List.take_zero List.take_succ_cons Nat.reduceEqDiff Nat.zero_add Nat.zero_lt_one and_self List.map_cons List.map_nil List.append_nil
end Go.Aff

namespace Go.Aff.L01
open Go.Proofs Go.Aff
set_option maxRecDepth 20000
attribute [local go_sem] Try.underlying50 fits3

def tk' {α : Type} (l : List α) : Tk := if l = [] then .full else .none



theorem ints_c {a b : List Int} {ta tb : Tk} {σ : AST} {K : AV → AST → Prop} (hK : K (.bool (decide (a = b))) σ) : TCalls Try.prog 95 [.slice ta (a.map (AV.int .i64)), .slice tb (b.map (AV.int .i64))] σ K := by
  refine tcalls_walk Try.f95 _ [.tmp 4] Try.func95 rfl rfl rfl mixed (Nat.le_of_ble_eq_true rfl) rfl fun hlen => ?_
  have ha : a.length ≤ 9223372036854775807 := by
    have := hlen (.slice ta (a.map (AV.int .i64))) (by simp)
    simp only [lenOk, List.length_map, maxL] at this; exact this
  simp -dsimp only [↓reduceIte, go_sem]
  refine arr_intro fun _ => ?_
  simp -dsimp only [↓reduceIte, go_sem]
  refine arr_intro fun _ => ?_
  simp only [List.length_map]
  simp -dsimp only [↓reduceIte, go_sem]
  refine boolW_split (fun h1 => ?_) (fun h1 => ?_)
  · have h1 : a.length ≠ b.length := by simp at h1; omega
    simp -dsimp only [↓reduceIte, go_sem]
    rw [show decide (a = b) = false by simp; intro h; rw [h] at h1; exact h1 rfl] at hK
    exact hK
  · have h1 : a.length = b.length := by simp at h1; omega
    simp -dsimp only [↓reduceIte, go_sem]
    refine awp_rounds (fun (i : Nat) τ s => s = σ ∧ i ≤ a.length ∧ τ 0 = .slice ta (a.map (AV.int .i64)) ∧ τ 1 = .slice tb (b.map (AV.int .i64)) ∧ τ 5 = .int .i64 i ∧ a.take i = b.take i) (fun i => a.length - i) 0 ?_ ?_
    · refine ⟨rfl, by omega, ?_, ?_, ?_, by simp⟩ <;> simp only [go_sem] <;> rfl
    · rintro i τ s ⟨rfl, hi, t0, t1, t5, ht⟩
      simp -dsimp only [↓reduceIte, go_sem, t0, t1, t5]
      refine arr_intro fun _ => ?_
      simp only [List.length_map]
      simp -dsimp only [↓reduceIte, go_sem, t0, t1, t5]
      refine boolW_split (fun h2 => ?_) (fun h2 => ?_)
      · have h2 : i < a.length := by simp at h2; omega
        obtain ⟨x, hx⟩ := get_lt h2
        obtain ⟨y, hy⟩ := get_lt (l := b) (i := i) (by omega)
        simp -dsimp only [↓reduceIte, go_sem, t0, t1, t5]
        refine awp_drawS [0, 1, 2, 3, 4, 5, 6, 7, 8] (by kernel_rfl) ?_
        simp -dsimp only [↓reduceIte, go_sem, t0, t1, t5]
        refine nth_get hx ?_
        simp -dsimp only [↓reduceIte, go_sem, t0, t1, t5]
        refine nth_get hy ?_
        simp -dsimp only [↓reduceIte, go_sem, t0, t1, t5]
        refine boolW_split (fun h3 => ?_) (fun h3 => ?_)
        · have h3 : x ≠ y := by simpa using h3
          simp -dsimp only [↓reduceIte, go_sem, t0, t1, t5]
          rw [show decide (a = b) = false by simp; intro h; rw [h, hy] at hx; exact h3 (Option.some.inj hx).symm] at hK
          exact hK
        · have h3 : x = y := by simpa using h3
          simp -dsimp only [↓reduceIte, go_sem, t0, t1, t5]
          rw [wrap_i64 (by omega) (by omega)]
          refine later_intro ⟨i + 1, by omega, ?_⟩
          refine ⟨rfl, by omega, ?_, ?_, ?_, ?_⟩ <;> (try simp only [go_sem, t0, t1, t5]) <;> try rfl
          rw [List.take_add_one, List.take_add_one, ht, hx, hy, h3]
      · have h2 : i = a.length := by simp at h2; omega
        simp -dsimp only [↓reduceIte, go_sem, t0, t1, t5]
        rw [h2, List.take_length, h1, List.take_length] at ht
        rw [show decide (a = b) = true by simpa using ht] at hK
        exact hK

end Go.Aff.L01

namespace Go.Aff.L01
open Go.Proofs Go.Aff
set_option maxRecDepth 20000
end Go.Aff.L01

namespace Go.Aff

variable {g g' : G} {w w' : World} {σ σ' : AST} {P : Program}

/-! ### Code with marks -/
def LiftX (n : Nat) (g0 : G) (w0 : World) (Q : Exit → List Deferred → Env → AST → Prop) : Exit → Act → World → Prop := fun e a w =>
  ∃ g τ σ, Ev g0 w0 g w ∧ Inv g σ w ∧ relE g w τ a.tmps ∧ a.tmps.size = n ∧ Q e a.defers τ σ
theorem LiftX.trans {n : Nat} {Q : Exit → List Deferred → Env → AST → Prop} {e : Exit} {a : Act} {w0 w1 : World} {g0 g1 : G} (hE : Ev g0 w0 g1 w1) (h : LiftX n g1 w1 Q e a w) : LiftX n g0 w0 Q e a w := by
  obtain ⟨g2, τ, σ, h1, h2⟩ := h
  exact ⟨g2, τ, σ, hE.trans h1, h2⟩
end Go.Aff

namespace Go.Aff

variable {P : Program} {σ σ' : AST} {ops : Array Oper} {τ : Env} {KE : Env → AST → Prop}

def ptrO : AV → List Nat
  | .ptr (some (i, _)) => [i]
  | .arr i _ _ => [i]
  | _ => []
def lenK : AV → List Nat
  | .mp (some i) => [i]
  | _ => []
def reads (ρ : Operand → AV) : Op → List Nat
  | .load _ x => ptrO (ρ x)
  | .fieldAddr _ x _ => ptrO (ρ x)
  | .indexAddr _ x _ => ptrO (ρ x)
  | .convert _ _ x => ptrO (ρ x)
  | .call c => match c.callee, c.args.toList with
    | .builtin .len, [x] => lenK (ρ x)
    | _, _ => []
  | _ => []
def keeps (ks : List Nat) (σ σ' : AST) : Prop := ∀ k ∈ ks, σ'.objs[k]? = σ.objs[k]?

theorem opW_free {ρ : Operand → AV} {o : Oper} {p : AV → Prop} (he : effO P o = false) (hs : keeps (reads ρ o.op) σ σ') (h : opW P ρ o σ fun v _ => p v) : opW P ρ o σ' fun v _ => p v := by
  obtain ⟨dst, op, type, pos, after, guard⟩ := o
  cases op <;> simp only [effO] at he <;> simp only [opW] at h ⊢ <;> try exact h
  case convert s d x =>
    unfold convW at h ⊢
    split at h
    · exact h
    · rcases h with h | ⟨e, h1, h2, h3, h4⟩
      · exact .inl h
      · rw [h1] at he; simp at he
    · exact h
    · rename_i i p n ha
      rw [hs i (by simp [reads, ha, ptrO])]
      exact h
    · exact h
  case load t a =>
    unfold loadW at h ⊢
    split at h
    · rename_i i p ha
      rw [hs i (by simp [reads, ha, ptrO])]
      exact h
    · exact h
    · exact h.elim
  case fieldAddr t x i =>
    refine ⟨h.1, ?_⟩
    have h := h.2
    unfold fieldAddrW at h ⊢
    split at h
    · rename_i j p ha
      rw [hs j (by simp [reads, ha, ptrO])]
      exact h
    · exact h
    · exact h.elim
  case indexAddr t x i =>
    unfold indexAddrW at h ⊢
    split at h
    · split at h
      · exact h
      · rename_i j p ha
        rw [hs j (by simp [reads, ha, ptrO])]
        exact h
      · exact h
      · rename_i j p m ha
        rw [hs j (by simp [reads, ha, ptrO])]
        exact h
      · exact h.elim
    · exact h.elim
  case call c =>
    unfold callW at h ⊢
    split at h
    · rename_i hc; simp [hc] at he
    · rename_i hc
      split at h
      · rename_i x hx
        obtain ⟨t, ht, h⟩ := h
        refine ⟨t, ht, ?_⟩
        split at h
        · rename_i s hs'; simp only [hs']; exact h
        · rename_i tk xs hs'; simp only [hs']; exact h
        · rename_i i p n hs'; simp only [hs']; exact h
        · rename_i hs'; simp only [hs']; exact h
        · rename_i i hs'
          have e := hs i (by simp [reads, hc, hx, hs', lenK])
          simp only [hs', e]; exact h
        · exact h.elim
      · exact h.elim
    · rename_i hc; simp [hc] at he
    · exact h
    · exact h
    · rename_i hc; simp [hc] at he
    · rename_i hc; simp [hc] at he
    · rename_i hc; simp [hc] at he
    · rename_i hc; simp [hc] at he
    · exact h.elim
  all_goals (simp at he)

theorem step_same {o : Oper} {v : AV} (hl : ∀ t, lenOk (τ t)) (he : effO P o = false) (hs : keeps (reads (ev τ) o.op) σ σ') (h : stepW P ops o τ σ fun v' σ'' => v' = v ∧ σ'' = σ) :
    stepW P ops o τ σ' fun v' σ'' => v' = v ∧ σ'' = σ' := by
  have hlo : ∀ x, lenOk (ev τ x) := by
    intro x
    cases x with
    | tmp t => exact hl t
    | const c => simp only [ev]; exact lenOk_of (g := ⟨0, [], fun _ => none, []⟩) (w := default) (absV_rel _ _ c)
    | global _ => trivial
    | func f => trivial
  have key : opW P (ev τ) o σ (fun v' σ'' => v' = v ∧ σ'' = σ) → opW P (ev τ) o σ' (fun v' σ'' => v' = v ∧ σ'' = σ') := by
    intro h
    have h0 : opW P (ev τ) o σ (fun v' _ => v' = v) := opW_mono (fun _ _ h => h.1) h
    obtain ⟨u, hu, hk⟩ := op_det hlo he (opW_free he hs h0)
    subst hu
    exact hk _ ⟨rfl, rfl⟩
  unfold stepW at h ⊢
  split at h
  · exact key h
  · split at h
    · exact h.elim
    · split at h
      · exact ⟨fun e => key (h.1 e), fun e => ⟨(h.2 e).1, rfl⟩⟩
      · exact ⟨h.1, rfl⟩
      · exact h.elim

def seqE (P : Program) (ops : Array Oper) : List (Nat × Bool) → List Nat → Env → AST → (Env → AST → Prop) → Prop
  | [], ks, τ, σ, K => K τ σ
  | (i, true) :: r, ks, τ, σ, K => match gop ops i with
    | none => False
    | some o => stepW P ops o τ σ fun v σ' => keeps ks σ σ' ∧ seqE P ops r ks (τ.putO o.dst v) σ' K
  | (i, false) :: r, ks, τ, σ, K => match gop ops i with
    | none => False
    | some o => stepW P ops o τ σ fun v σ' => σ' = σ ∧ seqE P ops r (reads (ev τ) o.op ++ ks) (τ.putO o.dst v) σ' K

/-! ### As rules -/
def seqEt (P : Program) (ops : Array Oper) (o : Option Oper) (r : List (Nat × Bool)) (ks : List Nat) (τ : Env) (σ : AST) (K : Env → AST → Prop) : Prop := match o with
  | none => False
  | some o => stepW P ops o τ σ fun v σ' => keeps ks σ σ' ∧ seqE P ops r ks (τ.putO o.dst v) σ' K
def seqEf (P : Program) (ops : Array Oper) (o : Option Oper) (r : List (Nat × Bool)) (ks : List Nat) (τ : Env) (σ : AST) (K : Env → AST → Prop) : Prop := match o with
  | none => False
  | some o => stepW P ops o τ σ fun v σ' => σ' = σ ∧ seqE P ops r (reads (ev τ) o.op ++ ks) (τ.putO o.dst v) σ' K
variable {ks : List Nat}
theorem seqE_nil : seqE P ops [] ks τ σ KE = KE τ σ := nr rfl
theorem seqE_t {i : Nat} {r : List (Nat × Bool)} : seqE P ops ((i, true) :: r) ks τ σ KE = seqEt P ops (gop ops i) r ks τ σ KE := by simp only [seqE, seqEt]
theorem seqE_f {i : Nat} {r : List (Nat × Bool)} : seqE P ops ((i, false) :: r) ks τ σ KE = seqEf P ops (gop ops i) r ks τ σ KE := by simp only [seqE, seqEf]
theorem seqEt_some {o : Oper} {r : List (Nat × Bool)} : seqEt P ops (some o) r ks τ σ KE = stepW P ops o τ σ (@Lam ⟨fun v σ' => @Later ⟨keeps ks σ σ' ∧ seqE P ops r ks (τ.putO o.dst v) σ' KE⟩⟩) := nr rfl
theorem seqEf_some {o : Oper} {r : List (Nat × Bool)} : seqEf P ops (some o) r ks τ σ KE = stepW P ops o τ σ (@Lam ⟨fun v σ' => σ' = σ ∧ @Later ⟨seqE P ops r (reads (ev τ) o.op ++ ks) (τ.putO o.dst v) σ' KE⟩⟩) := nr rfl
theorem reads_load {ρ : Operand → AV} {t : TypeId} {x : Operand} : reads ρ (.load t x) = ptrO (ρ x) := rfl
theorem reads_fieldAddr {ρ : Operand → AV} {t : TypeId} {x : Operand} {i : Nat} : reads ρ (.fieldAddr t x i) = ptrO (ρ x) := rfl
theorem reads_indexAddr {ρ : Operand → AV} {t : TypeId} {x y : Operand} : reads ρ (.indexAddr t x y) = ptrO (ρ x) := rfl
theorem reads_move {ρ : Operand → AV} {x : Operand} : reads ρ (.move x) = [] := rfl
theorem reads_assign {ρ : Operand → AV} {x : Operand} : reads ρ (.assign x) = [] := rfl
theorem reads_index {ρ : Operand → AV} {t : TypeId} {x y : Operand} : reads ρ (.index t x y) = [] := rfl
theorem reads_convert {ρ : Operand → AV} {s d : TypeId} {x : Operand} : reads ρ (.convert s d x) = ptrO (ρ x) := rfl
theorem reads_binOp {ρ : Operand → AV} {op : BinOp} {t u : TypeId} {x y : Operand} : reads ρ (.binOp op t x y u) = [] := rfl
theorem reads_unOp {ρ : Operand → AV} {op : UnOp} {t : TypeId} {x : Operand} : reads ρ (.unOp op t x) = [] := rfl
theorem reads_extract {ρ : Operand → AV} {x : Operand} {i : Nat} : reads ρ (.extract x i) = [] := rfl
theorem reads_field {ρ : Operand → AV} {t : TypeId} {x : Operand} {i : Nat} : reads ρ (.field t x i) = [] := rfl
theorem reads_build {ρ : Operand → AV} {t : TypeId} {ps : Array (Nat × Operand)} : reads ρ (.build t ps) = [] := rfl
theorem reads_slice {ρ : Operand → AV} {t : TypeId} {x : Operand} {a b c : Option Operand} : reads ρ (.slice t x a b c) = [] := rfl
theorem reads_call {ρ : Operand → AV} {f : Operand} {zs9 : Array Operand} {ts : Array TypeId} : reads ρ (.call ⟨.value f, zs9, ts⟩) = [] := rfl
theorem reads_invoke {ρ : Operand → AV} {r : Operand} {m : String} {zs9 : Array Operand} {ts : Array TypeId} : reads ρ (.call ⟨.invoke r m, zs9, ts⟩) = [] := rfl
theorem reads_append {ρ : Operand → AV} {zs9 : Array Operand} {ts : Array TypeId} : reads ρ (.call ⟨.builtin .append, zs9, ts⟩) = [] := rfl
theorem reads_copy {ρ : Operand → AV} {zs9 : Array Operand} {ts : Array TypeId} : reads ρ (.call ⟨.builtin .copy, zs9, ts⟩) = [] := rfl
theorem reads_max {ρ : Operand → AV} {zs9 : Array Operand} {ts : Array TypeId} : reads ρ (.call ⟨.builtin .max, zs9, ts⟩) = [] := rfl
theorem reads_min {ρ : Operand → AV} {zs9 : Array Operand} {ts : Array TypeId} : reads ρ (.call ⟨.builtin .min, zs9, ts⟩) = [] := rfl
theorem reads_delete {ρ : Operand → AV} {zs9 : Array Operand} {ts : Array TypeId} : reads ρ (.call ⟨.builtin .delete, zs9, ts⟩) = [] := rfl
theorem reads_len {ρ : Operand → AV} {x : Operand} {ts : Array TypeId} : reads ρ (.call ⟨.builtin .len, #[x], ts⟩) = lenK (ρ x) := rfl
theorem lenK_str {s : List UInt8} : lenK (.str s) = [] := rfl
theorem lenK_slice {tk : Tk} {xs : List AV} : lenK (.slice tk xs) = [] := rfl
theorem lenK_arr {i n : Nat} {p : List Nat} : lenK (.arr i p n) = [] := rfl
theorem lenK_nil : lenK (.mp none) = [] := rfl
theorem lenK_mp {i : Nat} : lenK (.mp (some i)) = [i] := rfl
attribute [go_sem] reads_invoke reads_append reads_copy reads_max reads_min reads_delete reads_len lenK_str lenK_slice lenK_arr lenK_nil lenK_mp
theorem ptrO_some {i : Nat} {p : List Nat} : ptrO (.ptr (some (i, p))) = [i] := rfl
theorem ptrO_eptr {v : AV} : ptrO (.eptr v) = [] := rfl
theorem ptrO_slice {tk : Tk} {xs : List AV} : ptrO (.slice tk xs) = [] := rfl
theorem keeps_nil : keeps [] σ σ' := fun _ h => by simp at h
theorem keeps_refl : keeps ks σ σ := fun _ _ => rfl
attribute [go_sem ↓] seqE_nil seqE_t seqE_f seqEt_some seqEf_some
attribute [go_sem] reads_load reads_fieldAddr reads_indexAddr reads_move reads_assign reads_index reads_convert reads_binOp reads_unOp reads_extract reads_field reads_build reads_slice reads_call ptrO_some ptrO_eptr ptrO_slice List.nil_append
end Go.Aff

namespace Go.Aff

variable {P : Program} {σ σ' : AST} {K : AV → AST → Prop} {KV : AV → Prop} {KS : AST → Prop}

def AST.app (σ : AST) (l : List AObj) : AST := ⟨σ.objs ++ l, σ.toks⟩
theorem push_app {o : AObj} : σ.push o = σ.app [o] := rfl
theorem app_app {a b : List AObj} : (σ.app a).app b = σ.app (a ++ b) := by simp [AST.app]
theorem length_app {l : List AObj} : (σ.app l).objs.length = σ.objs.length + l.length := by simp [AST.app]
theorem objs_app {l : List AObj} {k : Nat} : (σ.app l).objs[σ.objs.length + k]? = l[k]? := by
  simp only [AST.app]; rw [List.getElem?_append_right (by omega)]; congr 1; omega
theorem objs_app0 {l : List AObj} : (σ.app l).objs[σ.objs.length]? = l[0]? := objs_app (k := 0)
theorem cellAt_app {l : List AObj} {k : Nat} {p : List Nat} : cellAt (σ.app l) (σ.objs.length + k) p = (l[k]?).bind fun o => objCell o p := by simp only [cellAt, objs_app]
theorem cellAt_app0 {l : List AObj} {p : List Nat} : cellAt (σ.app l) σ.objs.length p = (l[0]?).bind fun o => objCell o p := cellAt_app (k := 0)
theorem set_app {l : List AObj} {k : Nat} {o : AObj} : (σ.app l).set (σ.objs.length + k) o = σ.app (l.set k o) := by
  simp only [AST.app, AST.set]; congr 1
  rw [List.set_append_right _ _ (by omega)]; congr 2; omega
theorem set_app0 {l : List AObj} {o : AObj} : (σ.app l).set σ.objs.length o = σ.app (l.set 0 o) := set_app (k := 0)
theorem Ext.app (σ : AST) (l : List AObj) : Ext σ (σ.app l) := ⟨l, [], by simp [AST.app]⟩

def storeC (P : Program) (t : TypeId) (o : Option AObj) (p : List Nat) (x : AV) (K : AV → Prop) : Prop := match o with
  | some (.cells v) => match v.at p with
    | some u => fits P t x ∧ x.shape = u.shape ∧ x.known = true ∧ setOk v p x ∧ K (v.setAt p x)
    | none => False
  | _ => False
def storeV (P : Program) (t : TypeId) (v : AV) (u : Option AV) (p : List Nat) (x : AV) (K : AV → Prop) : Prop := match u with
  | some u => fits P t x ∧ x.shape = u.shape ∧ x.known = true ∧ setOk v p x ∧ K (v.setAt p x)
  | none => False
theorem store_ptr {t : TypeId} {j : Nat} {p : List Nat} {x : AV} : storeW P σ t (.ptr (some (j, p))) x KS = storeC P t σ.objs[j]? p x (@LamA _ ⟨fun v' => KS (σ.set j (.cells v'))⟩) := by
  simp only [storeW, storeC, LamA]
  cases h : σ.objs[j]? with
  | none => rfl
  | some o => cases o <;> rfl
theorem storeC_cells {t : TypeId} {v x : AV} {p : List Nat} : storeC P t (some (.cells v)) p x KV = storeV P t v (v.at p) p x KV := nr rfl
theorem storeV_some {t : TypeId} {v u x : AV} {p : List Nat} : storeV P t v (some u) p x KV = ((fits P t x ∧ x.shape = u.shape ∧ x.known = true ∧ setOk v p x) ∧ @Later ⟨KV (v.setAt p x)⟩) := by
  simp [storeV, Later, and_assoc]
theorem setOk_nil {v x : AV} : setOk v [] x = True := by cases v <;> simp [setOk]
theorem setAt_nil {v x : AV} : v.setAt [] x = x := by cases v <;> simp [AV.setAt]
theorem shape_int {k : IntKind} {n : Int} : (AV.int k n).shape = .leaf := by simp [AV.shape]
theorem shape_str {s : List UInt8} : (AV.str s).shape = .leaf := by simp [AV.shape]
theorem shape_bool {b : Bool} : (AV.bool b).shape = .leaf := by simp [AV.shape]
theorem shape_slice {tk : Tk} {xs : List AV} : (AV.slice tk xs).shape = .leaf := by simp [AV.shape]
theorem shape_ptr {p : Option (Nat × List Nat)} : (AV.ptr p).shape = .leaf := by simp [AV.shape]
theorem shape_fn {f : Fn} {a b : List AV} : (AV.fn f a b).shape = .leaf := by simp [AV.shape]

theorem one_cell {t : Tmp} {ty : TypeId} {τ : Env} : oneRes P τ σ (.cell t ty) KV = loadW P σ ty (τ t) KV := nr rfl
attribute [go_sem ↓] one_cell
attribute [go_sem] store_ptr storeC_cells storeV_some setOk_nil setAt_nil shape_int shape_str shape_bool shape_slice shape_ptr shape_fn
end Go.Aff

namespace Go.Aff

variable {P : Program} {σ σ' : AST} {K : AV → AST → Prop} {KV : AV → Prop} {KS : AST → Prop}

theorem fits_agg {t n : Nat} (ha : aggT P t = some true) (hc : P.cellsOf t = n) {v : AV} : fits P t v = (v.isAgg = true ∧ v.size = n) := by
  unfold fits
  rw [ha, hc, eq_iff_iff]
  constructor
  · rintro ⟨h1, h2⟩; exact ⟨(Option.some.inj h1).symm, h2.symm⟩
  · rintro ⟨h1, h2⟩; exact ⟨by rw [h1], h2.symm⟩
theorem shape_agg {ps : List AV} : (AV.agg ps).shape = .node (AV.shapes ps) := by simp [AV.shape]
theorem shapes_nil : AV.shapes [] = [] := rfl
theorem shapes_cons {p : AV} {r : List AV} : AV.shapes (p :: r) = p.shape :: AV.shapes r := by simp [AV.shapes]
theorem shape_dig {d : Dig} : (AV.dig d).shape = .dig := by simp [AV.shape]
/-! ### Two owners -/
def apart (a b : Tk) : Prop := ∀ k, a = .own k → b ≠ .own k
theorem apart_full {b : Tk} : apart .full b := fun k h => by cases h
theorem apart.symm {a b : Tk} (h : apart a b) : apart b a := fun k h1 h2 => h k h2 h1
theorem canApp_apart {a b : Tk} {n m e f : Nat} (h : apart a b) (hc : canApp σ b m f) : canApp (growS σ a n e) b m f := by
  cases b with
  | none => exact hc.elim
  | lit => exact hc.elim
  | full => trivial
  | own k =>
    simp only [canApp] at hc ⊢
    cases a with
    | none => exact hc
    | lit => exact hc
    | full =>
      simp only [growS, AST.tok]
      rw [List.getElem?_append_left (List.getElem?_eq_some_iff.1 hc).1]; exact hc
    | own j =>
      have hne : j ≠ k := fun e => by subst e; exact h j rfl rfl
      simp only [growS, AST.setTok]
      rw [List.getElem?_set_ne hne]; exact hc
theorem canApp_app {tk : Tk} {n e : Nat} {l : List AObj} : canApp (σ.app l) tk n e = canApp σ tk n e := by cases tk <;> rfl
theorem canApp_set {tk : Tk} {n e i : Nat} {o : AObj} : canApp (σ.set i o) tk n e = canApp σ tk n e := by cases tk <;> rfl
theorem strips_leaf {α : Type} {f : α → AV} (h : ∀ x, (f x).strip = f x) : ∀ {l : List α}, AV.strips (l.map f) = l.map f
  | [] => by simp [AV.strips]
  | x :: r => by simp [AV.strips, h x, strips_leaf h (l := r)]
theorem noRefs_leaf {α : Type} {f : α → AV} (h : ∀ x, (f x).noRef = true) : ∀ {l : List α}, AV.noRefs (l.map f) = true
  | [] => rfl
  | x :: r => by simp [AV.noRefs, h x, noRefs_leaf h (l := r)]
theorem objs_ext {σ s : AST} {l : List AObj} (h : Ext (σ.app l) s) {k : Nat} (hk : k < l.length) : s.objs[σ.objs.length + k]? = l[k]? := by
  obtain ⟨O, T, rfl⟩ := h
  simp only [AST.app, List.append_assoc]
  rw [List.getElem?_append_right (by omega), show σ.objs.length + k - σ.objs.length = k by omega, List.getElem?_append_left hk]
theorem cell_ext {σ s : AST} {l : List AObj} (h : Ext (σ.app l) s) {k : Nat} {v : AV} (hk : l[k]? = some (.cells v)) (p : List Nat) : cellAt s (σ.objs.length + k) p = v.at p := by
  simp only [cellAt, objs_ext h (List.getElem?_eq_some_iff.1 hk).1, hk, Option.bind_some, objCell]
theorem cell_ext0 {σ s : AST} {l : List AObj} (h : Ext (σ.app l) s) {v : AV} (hk : l[0]? = some (.cells v)) (p : List Nat) : cellAt s σ.objs.length p = v.at p := cell_ext (k := 0) h hk p
attribute [go_sem] shape_agg shapes_nil shapes_cons shape_dig
end Go.Aff

namespace Go.Aff

variable {P : Program} {σ σ' : AST} {ops : Array Oper} {τ : Env} {KE : Env → AST → Prop}

def seqF (P : Program) (ops : Array Oper) : List (Nat × Nat) → List Nat → Env → AST → (Env → AST → Prop) → Prop
  | [], ks, τ, σ, K => K τ σ
  | (i, 1) :: r, ks, τ, σ, K => match gop ops i with
    | none => False
    | some o => stepW P ops o τ σ fun v σ' => keeps ks σ σ' ∧ seqF P ops r ks (τ.putO o.dst v) σ' K
  | (i, 0) :: r, ks, τ, σ, K => match gop ops i with
    | none => False
    | some o => stepW P ops o τ σ fun v σ' => σ' = σ ∧ seqF P ops r (reads (ev τ) o.op ++ ks) (τ.putO o.dst v) σ' K
  | (i, _) :: r, ks, τ, σ, K => match gop ops i with
    | none => False
    | some o => stepW P ops o τ σ fun v σ' => σ' = σ ∧ seqF P ops r ks (τ.putO o.dst v) σ' K

def seqF0 (P : Program) (ops : Array Oper) (o : Option Oper) (r : List (Nat × Nat)) (ks : List Nat) (τ : Env) (σ : AST) (K : Env → AST → Prop) : Prop := match o with
  | none => False
  | some o => stepW P ops o τ σ fun v σ' => σ' = σ ∧ seqF P ops r (reads (ev τ) o.op ++ ks) (τ.putO o.dst v) σ' K
def seqF1 (P : Program) (ops : Array Oper) (o : Option Oper) (r : List (Nat × Nat)) (ks : List Nat) (τ : Env) (σ : AST) (K : Env → AST → Prop) : Prop := match o with
  | none => False
  | some o => stepW P ops o τ σ fun v σ' => keeps ks σ σ' ∧ seqF P ops r ks (τ.putO o.dst v) σ' K
def seqF2 (P : Program) (ops : Array Oper) (o : Option Oper) (r : List (Nat × Nat)) (ks : List Nat) (τ : Env) (σ : AST) (K : Env → AST → Prop) : Prop := match o with
  | none => False
  | some o => stepW P ops o τ σ fun v σ' => σ' = σ ∧ seqF P ops r ks (τ.putO o.dst v) σ' K
variable {ks : List Nat}
theorem seqF_nil : seqF P ops [] ks τ σ KE = KE τ σ := nr rfl
theorem seqF_1 {i : Nat} {r : List (Nat × Nat)} : seqF P ops ((i, 1) :: r) ks τ σ KE = seqF1 P ops (gop ops i) r ks τ σ KE := by simp only [seqF, seqF1]
theorem seqF_0 {i : Nat} {r : List (Nat × Nat)} : seqF P ops ((i, 0) :: r) ks τ σ KE = seqF0 P ops (gop ops i) r ks τ σ KE := by simp only [seqF, seqF0]
theorem seqF_2 {i : Nat} {r : List (Nat × Nat)} : seqF P ops ((i, 2) :: r) ks τ σ KE = seqF2 P ops (gop ops i) r ks τ σ KE := by simp only [seqF, seqF2]
theorem seqF1_some {o : Oper} {r : List (Nat × Nat)} : seqF1 P ops (some o) r ks τ σ KE = stepW P ops o τ σ (@Lam ⟨fun v σ' => @Later ⟨keeps ks σ σ' ∧ seqF P ops r ks (τ.putO o.dst v) σ' KE⟩⟩) := nr rfl
theorem seqF0_some {o : Oper} {r : List (Nat × Nat)} : seqF0 P ops (some o) r ks τ σ KE = stepW P ops o τ σ (@Lam ⟨fun v σ' => σ' = σ ∧ @Later ⟨seqF P ops r (reads (ev τ) o.op ++ ks) (τ.putO o.dst v) σ' KE⟩⟩) := nr rfl
theorem seqF2_some {o : Oper} {r : List (Nat × Nat)} : seqF2 P ops (some o) r ks τ σ KE = stepW P ops o τ σ (@Lam ⟨fun v σ' => σ' = σ ∧ @Later ⟨seqF P ops r ks (τ.putO o.dst v) σ' KE⟩⟩) := nr rfl
attribute [go_sem ↓] seqF_nil seqF_0 seqF_1 seqF_2 seqF0_some seqF1_some seqF2_some
theorem reads_buildSlice {ρ : Operand → AV} {t : TypeId} {n : Nat} {ps : Array (Nat × Operand)} : reads ρ (.buildSlice t n ps) = [] := rfl
attribute [go_sem] reads_buildSlice

theorem res_ct {a b : Nat} {ty : TypeId} {KV : AV → Prop} : resW P [.cell a ty, .tmp b] τ σ KV = loadW P σ ty (τ a) (@LamA _ ⟨fun x => (x.known = true ∧ (τ b).known = true) ∧ @Later ⟨KV (.tuple [x, τ b])⟩⟩) := by
  simp [resW, resList, oneRes, Later, LamA]
theorem res_tc {a b : Nat} {ty : TypeId} {KV : AV → Prop} : resW P [.tmp a, .cell b ty] τ σ KV = loadW P σ ty (τ b) (@LamA _ ⟨fun x => ((τ a).known = true ∧ x.known = true) ∧ @Later ⟨KV (.tuple [τ a, x])⟩⟩) := by
  simp [resW, resList, oneRes, Later, LamA]
attribute [go_sem ↓] res_ct res_tc
/-! ### Stores into parts -/
def setAtO (ps : List AV) (i : Nat) (p : List Nat) (x : AV) : Option AV → AV
  | some v => .agg (ps.set i (v.setAt p x))
  | none => .agg ps
theorem setAt_agg {ps : List AV} {i : Nat} {p : List Nat} {x : AV} : (AV.agg ps).setAt (i :: p) x = setAtO ps i p x ps[i]? := by
  simp only [AV.setAt]; cases ps[i]? <;> rfl
theorem setAtO_some {ps : List AV} {i : Nat} {p : List Nat} {x v : AV} : setAtO ps i p x (some v) = .agg (ps.set i (v.setAt p x)) := rfl
def setOkO (p : List Nat) (x : AV) : Option AV → Prop
  | some v => setOk v p x
  | none => True
theorem setOk_agg {ps : List AV} {i : Nat} {p : List Nat} {x : AV} : setOk (.agg ps) (i :: p) x = setOkO p x ps[i]? := by
  simp only [setOk, eq_iff_iff]
  cases h : ps[i]? with
  | none => simp [setOkO]
  | some v => simp [setOkO]
theorem setOkO_some {p : List Nat} {x v : AV} : setOkO p x (some v) = setOk v p x := rfl
attribute [go_sem] setAt_agg setAtO_some setOk_agg setOkO_some
end Go.Aff

namespace Go.Aff

variable {τ : Env} {P : Program} {σ σ' : AST} {K : AV → AST → Prop} {KV : AV → Prop} {KS : AST → Prop}

def isPtrT (P : Program) (t : TypeId) : Bool := match P.underlying t with | some (.pointer _) => true | _ => false
theorem isPtrT_iff {t : TypeId} (h : isPtrT P t = true) : ∃ a, P.underlying t = some (.pointer a) := by
  unfold isPtrT at h; split at h
  · exact ⟨_, by assumption⟩
  · cases h
theorem bin_ptr_eql {t : TypeId} (hu : isPtrT P t = true) {p : Option (Nat × List Nat)} : binW P .eql t (.ptr p) (.ptr none) KV = KV (.bool p.isNone) := by
  obtain ⟨a, h⟩ := isPtrT_iff hu
  cases p <;> simp [binW, eqW, eqA, h]
theorem bin_ptr_neq {t : TypeId} (hu : isPtrT P t = true) {p : Option (Nat × List Nat)} : binW P .neq t (.ptr p) (.ptr none) KV = KV (.bool !p.isNone) := by
  obtain ⟨a, h⟩ := isPtrT_iff hu
  cases p <;> simp [binW, eqW, eqA, h]

def digT (P : Program) (t : TypeId) : Bool := !P.eqGuardType P.depth t && match P.underlying t with | some (.array 32 e) => isU8 P e && P.cellsOf e == 1 | _ => false
theorem digT_iff {t : TypeId} (h : digT P t = true) : P.eqGuardType P.depth t = false ∧ ∃ e, P.underlying t = some (.array 32 e) ∧ isU8 P e = true ∧ P.cellsOf e = 1 := by
  unfold digT at h
  simp only [Bool.and_eq_true, Bool.not_eq_true'] at h
  obtain ⟨h1, h2⟩ := h
  split at h2
  · rename_i e he
    simp only [Bool.and_eq_true, beq_iff_eq] at h2
    exact ⟨h1, e, he, h2.1, h2.2⟩
  · cases h2
theorem bin_dig_eql {t : TypeId} (hu : digT P t = true) {a b : Dig} : binW P .eql t (.dig a) (.dig b) KV = KV (.bool (a.l == b.l)) := by
  obtain ⟨h1, e, h2, h3, h4⟩ := digT_iff hu
  simp [binW, eqW, eqA, h1, h2, h3, h4]
theorem bin_dig_neq {t : TypeId} (hu : digT P t = true) {a b : Dig} : binW P .neq t (.dig a) (.dig b) KV = KV (.bool !(a.l == b.l)) := by
  obtain ⟨h1, e, h2, h3, h4⟩ := digT_iff hu
  simp [binW, eqW, eqA, h1, h2, h3, h4]
theorem nilCheck_some {q : Nat × List Nat} : nilCheckW (.ptr (some q)) KV = KV (.ptr (some q)) := nr rfl
theorem cellAt_known {j : Nat} {v : AV} (h : σ.objs[j]? = some (.cells v)) (p : List Nat) : cellAt σ j p = v.at p := by simp only [cellAt, h, Option.bind_some, objCell]
theorem objs_known_app {j : Nat} {o : AObj} (h : σ.objs[j]? = some o) (d : List AObj) : (σ.app d).objs[j]? = some o := by
  have hj : j < σ.objs.length := (List.getElem?_eq_some_iff.1 h).1
  simp only [AST.app, List.getElem?_append_left hj, h]
theorem keeps_none : keeps [] σ σ' = True := by simp only [eq_iff_iff, iff_true]; exact keeps_nil
theorem reads_nilCheck {ρ : Operand → AV} {x : Operand} : reads ρ (.nilCheck x) = [] := rfl
attribute [go_sem] reads_nilCheck keeps_none nilCheck_some isPtrT bin_ptr_eql bin_ptr_neq Option.isNone_some Option.isNone_none

theorem sizes_all {c : Nat} : ∀ {l : List AV}, (∀ v ∈ l, v.size = c) → AV.sizes l = l.length * c
  | [], _ => by simp [AV.sizes]
  | v :: r, h => by
    have h1 := h v (by simp)
    have h2 := sizes_all (l := r) fun x hx => h x (by simp [hx])
    simp only [AV.sizes, h1, h2, List.length_cons, Nat.succ_mul]; omega

theorem indexAddr_arr {t e n c : Nat} {j : Nat} {p : List Nat} {xs : List AV} {i : Nat} {x : AV} {q : IntKind} (hu : P.underlying t = some (.array n e)) (hc : P.cellsOf e = c) (hl : xs.length = n) (hs : ∀ v ∈ xs, v.size = c)
    (ho : cellAt σ j p = some (.agg xs)) (hi : xs[i]? = some x) (hf : fits P e x) (hK : KV (.ptr (some (j, p ++ [i])))) : indexAddrW P σ t (.ptr (some (j, p))) (.int q i) KV := by
  have hin : i < n := by rw [← hl]; exact (List.getElem?_eq_some_iff.1 hi).1
  have hpl : placeOf P t i = some (i * c, e) := by
    unfold placeOf
    rw [hu]; simp only; rw [if_pos hin, hc]
  have hsz : AV.sizes (xs.take i) = i * c := by
    rw [sizes_all (c := c) fun v hv => hs v (List.mem_of_mem_take hv), List.length_take, Nat.min_eq_left (by omega)]
  simp only [cellAt, Option.bind_eq_some_iff] at ho
  obtain ⟨o, h1, h2⟩ := ho
  cases o with
  | cells v =>
    simp only [objCell] at h2
    simp only [indexAddrW, h1, h2]
    refine ⟨by omega, by omega, fun z hz => ?_⟩
    simp only [Int.toNat_natCast] at hz ⊢
    rw [hi] at hz; cases hz
    refine ⟨⟨e, ?_, hf⟩, ⟨e, by rw [hl]; exact hu⟩, hK⟩
    rw [hpl, hsz]
  | _ => simp [objCell] at h2

theorem indexAddr_dig {t e : TypeId} {j : Nat} {p : List Nat} {d : Dig} {i : Nat} {q : IntKind} (hu : P.underlying t = some (.array 32 e)) (hf : fits P e (.int .u8 0)) (ho : cellAt σ j p = some (.dig d)) (hi : i < 32) (hK : KV (.ptr (some (j, p ++ [i])))) :
    indexAddrW P σ t (.ptr (some (j, p))) (.int q i) KV := by
  simp only [cellAt, Option.bind_eq_some_iff] at ho
  obtain ⟨o, h1, h2⟩ := ho
  cases o with
  | cells v =>
    simp only [objCell] at h2
    simp only [indexAddrW, h1, h2]
    refine ⟨by omega, by rw [d.h]; omega, fun z hz => ?_⟩
    exact ⟨⟨e, hu, hf⟩, by rw [Int.toNat_natCast]; exact hK⟩
  | _ => simp [objCell] at h2
theorem at_dig1 {d : Dig} {i : Nat} : (AV.dig d).at [i] = (d.l[i]?).map fun b => .int .u8 b.toNat := rfl
theorem mm_min {k : IntKind} {a b : Int} : mmW false [.int k a, .int k b] KV = KV (.int k (min a b)) := by simp [mmW]
attribute [go_sem] mm_min
theorem res_ttc {a b c : Nat} {ty : TypeId} : resW P [.tmp a, .tmp b, .cell c ty] τ σ KV = loadW P σ ty (τ c) (@LamA _ ⟨fun x => ((τ a).known = true ∧ (τ b).known = true ∧ x.known = true) ∧ @Later ⟨KV (.tuple [τ a, τ b, x])⟩⟩) := by
  simp [resW, resList, oneRes, Later, LamA]
theorem res_ttt {a b c : Nat} : resW P [.tmp a, .tmp b, .tmp c] τ σ KV = (((τ a).known = true ∧ (τ b).known = true ∧ (τ c).known = true) ∧ @Later ⟨KV (.tuple [τ a, τ b, τ c])⟩) := by
  simp [resW, resList, oneRes, Later, LamA]
attribute [go_sem ↓] res_ttc
end Go.Aff

namespace Go.Aff.L21
open Go.Proofs Go.Aff Go.Aff.L01 Classical
set_option maxRecDepth 20000
attribute [local go_sem] push_app app_app length_app cellAt_app cellAt_app0 set_app set_app0 objs_app objs_app0 List.cons_append List.nil_append List.length_cons List.length_nil List.getElem?_cons_zero List.getElem?_cons_succ List.set_cons_zero List.set_cons_succ
attribute [-go_sem] cellAt_new
theorem zero3 : zeroA Try.prog 12 3 = .int .i64 0 := by kernel_rfl
theorem fits5 {v : AV} : fits Try.prog 5 v = (v.isAgg = false ∧ v.size = 1) := fits_leaf (by kernel_rfl) (by kernel_rfl)
theorem zero5 : zeroA Try.prog 12 5 = .int .u8 0 := by kernel_rfl
theorem fits22 {v : AV} : fits Try.prog 22 v = (v.isAgg = false ∧ v.size = 1) := fits_leaf (by kernel_rfl) (by kernel_rfl)
theorem fits23 {v : AV} : fits Try.prog 30 v = (v.isAgg = false ∧ v.size = 1) := fits_leaf (by kernel_rfl) (by kernel_rfl)
theorem zero23 : zeroA Try.prog 12 30 = .int .i64 0 := by kernel_rfl
theorem fits29 {v : AV} : fits Try.prog 43 v = (v.isAgg = false ∧ v.size = 1) := fits_leaf (by kernel_rfl) (by kernel_rfl)
theorem fits43 {v : AV} : fits Try.prog 123 v = (v.isAgg = false ∧ v.size = 1) := fits_leaf (by kernel_rfl) (by kernel_rfl)
theorem fits44 {v : AV} : fits Try.prog 50 v = (v.isAgg = false ∧ v.size = 1) := fits_leaf (by kernel_rfl) (by kernel_rfl)
theorem fits46 {v : AV} : fits Try.prog 84 v = (v.isAgg = true ∧ v.size = 6) := fits_agg (by kernel_rfl) (by kernel_rfl)
theorem p46_0 {ps : List AV} {x : AV} : partIs Try.prog 84 ps 0 x = (0 = AV.sizes (ps.take 0) ∧ fits Try.prog 3 x) := partIs_of (by kernel_rfl)
theorem p46_1 {ps : List AV} {x : AV} : partIs Try.prog 84 ps 1 x = (1 = AV.sizes (ps.take 1) ∧ fits Try.prog 3 x) := partIs_of (by kernel_rfl)
theorem p46_2 {ps : List AV} {x : AV} : partIs Try.prog 84 ps 2 x = (2 = AV.sizes (ps.take 2) ∧ fits Try.prog 3 x) := partIs_of (by kernel_rfl)
theorem p46_3 {ps : List AV} {x : AV} : partIs Try.prog 84 ps 3 x = (3 = AV.sizes (ps.take 3) ∧ fits Try.prog 50 x) := partIs_of (by kernel_rfl)
theorem p46_4 {ps : List AV} {x : AV} : partIs Try.prog 84 ps 4 x = (4 = AV.sizes (ps.take 4) ∧ fits Try.prog 43 x) := partIs_of (by kernel_rfl)
theorem p46_5 {ps : List AV} {x : AV} : partIs Try.prog 84 ps 5 x = (5 = AV.sizes (ps.take 5) ∧ fits Try.prog 50 x) := partIs_of (by kernel_rfl)
theorem zero46 : zeroA Try.prog 12 84 = .agg [.int .i64 0, .int .i64 0, .int .i64 0, .slice .full [], .slice .full [], .slice .full []] := by kernel_rfl
theorem zeroOf46 : ZeroOf Try.prog 84 (.agg [.int .i64 0, .int .i64 0, .int .i64 0, .slice .full [], .slice .full [], .slice .full []]) := ⟨_, _, rfl, rfl, rfl, rfl, rfl⟩
attribute [local go_sem ↓] res_ttt
theorem E29 : ElemT Try.prog 43 9 1 16 := ⟨rfl, by kernel_rfl, by kernel_rfl, ⟨.str [], ⟨_, _, rfl, rfl, rfl, rfl, rfl⟩⟩, by decide⟩
theorem E44 : ElemT Try.prog 50 3 1 8 := ⟨rfl, by kernel_rfl, by kernel_rfl, ⟨.int .i64 0, ⟨_, _, rfl, rfl, rfl, rfl, rfl⟩⟩, by decide⟩
theorem root_c {n : Int} (h0 : -9223372036854775808 ≤ n) (h1 : n ≤ 9223372036854775807) {σ : AST} {K : AV → AST → Prop} (hK : K (.str (numS n)) σ) : TCalls Try.prog 40 [.int .i64 n] σ K := by
  refine tcalls_walk Try.f40 _ [.tmp 2] Try.func40 rfl rfl rfl mixed (Nat.le_of_ble_eq_true rfl) rfl fun hlen => ?_
  simp -dsimp only [↓reduceIte, go_sem]
  refine number_c h0 h1 ?_
  simp -dsimp only [↓reduceIte, go_sem]
  exact hK

theorem many_c {n : Nat} (hn : n ≤ 1000000) {σ : AST} {K : AV → AST → Prop} (hK : K (.int .i64 (((n + 31) / 32 : Nat) : Int)) σ) : TCalls Try.prog 120 [.int .i64 n] σ K := by
  refine tcalls_walk Try.f120 _ [.tmp 2] Try.func120 rfl rfl rfl mixed (Nat.le_of_ble_eq_true rfl) rfl fun hlen => ?_
  simp -dsimp only [↓reduceIte, go_sem]
  rw [wrap_i64 (n := (n : Int) + 32) (by omega) (by omega), wrap_i64 (n := (n : Int) + 32 - 1) (by omega) (by omega), show (n : Int) + 32 - 1 = ((n + 31 : Nat) : Int) by omega]
  rw [show ((n + 31 : Nat) : Int).tdiv 32 = (((n + 31) / 32 : Nat) : Int) from tdiv_lit (n + 31) 31, wrap_i64 (by omega) (by omega)]
  exact hK

end Go.Aff.L21

namespace Go.Aff.L21
open Go.Proofs Go.Aff Go.Aff.L01 Classical
set_option maxRecDepth 20000
attribute [local go_sem] push_app app_app length_app cellAt_app cellAt_app0 set_app set_app0 objs_app objs_app0 List.cons_append List.nil_append List.length_cons List.length_nil List.getElem?_cons_zero List.getElem?_cons_succ List.set_cons_zero List.set_cons_succ
attribute [-go_sem] cellAt_new
attribute [local go_sem] Try.underlying9 fits29 Try.underlying43 fits44 Try.underlying50 p46_0 p46_1 p46_2 p46_3 p46_4 p46_5 Try.underlying84
attribute [local go_sem] fits3 fits9

attribute [local go_sem ↓] blockQ_exit2
theorem letter_eq (b : UInt8) : letterB b = ((decide ((97 : Int) ≤ b.toNat) && decide ((b.toNat : Int) ≤ 122)) || ((decide ((48 : Int) ≤ b.toNat) && decide ((b.toNat : Int) ≤ 57)) || (((b.toNat : Int) == 46) || (((b.toNat : Int) == 45) || ((b.toNat : Int) == 95))))) := by
  rw [Bool.eq_iff_iff]
  simp only [letterB, decide_eq_true_eq, Bool.or_eq_true, Bool.and_eq_true, beq_iff_eq]
  omega
theorem name_c {s : List UInt8} {σ : AST} {K : AV → AST → Prop} (hK : K (.bool (nameB s)) σ) : TCalls Try.prog 117 [.str s] σ K := by
  refine tcalls_walk Try.f117 _ [.tmp 2] Try.func117 rfl rfl rfl mixed (Nat.le_of_ble_eq_true rfl) rfl fun hlen => ?_
  have bad : ¬ (s ≠ [] ∧ s.length ≤ 12 ∧ s ≠ [46] ∧ s ≠ [46, 46] ∧ ∀ b ∈ s, letterB b = true) → K (.bool false) σ := fun h => by
    rw [nameB, decide_eq_false h] at hK; exact hK
  simp -dsimp only [↓reduceIte, go_sem]
  refine guardV_split (fun h1 => ?_) (fun h1 => ?_) <;> (try rw [h1])
  · have h1 : s ≠ [] := by simpa using h1
    simp -dsimp only [↓reduceIte, go_sem]
    refine arr_intro fun _ => ?_
    simp -dsimp only [↓reduceIte, go_sem]
    refine guardV_split (fun h2 => ?_) (fun h2 => ?_) <;> (try rw [h2])
    · have h2 : s.length ≤ 12 := by simp at h2; omega
      simp -dsimp only [↓reduceIte, go_sem]
      refine guardV_split (fun h3 => ?_) (fun h3 => ?_) <;> (try rw [h3])
      · have h3 : s ≠ [46] := by simpa using h3
        simp -dsimp only [↓reduceIte, go_sem]
        refine boolW_split (fun h4 => ?_) (fun h4 => ?_)
        · have h4 : s = [46, 46] := by simpa using h4
          simp -dsimp only [↓reduceIte, go_sem]
          exact bad (fun h => h.2.2.2.1 h4)
        · have h4 : s ≠ [46, 46] := by simpa using h4
          simp -dsimp only [↓reduceIte, go_sem]
          refine arr_intro fun _ => ?_
          simp -dsimp only [↓reduceIte, go_sem]
          refine awp_rounds (fun (i : Nat) τ s' => s' = σ ∧ i ≤ s.length ∧ (∀ j c, j < i → s[j]? = some c → letterB c = true) ∧ τ 0 = .str s ∧ τ 3 = .bool true ∧ τ 22 = .int .i64 s.length ∧ τ 23 = .int .i64 i) (fun i => s.length - i) 0 ?_ ?_
          · refine ⟨rfl, by omega, fun j c h => by omega, ?_, ?_, ?_, ?_⟩ <;> (try simp only [go_sem]) <;> rfl
          · rintro i τ s' ⟨rfl, hi, hall, t0, t3, t22, t23⟩
            simp -dsimp only [↓reduceIte, go_sem, t0, t3, t22, t23]
            refine boolW_split (fun hb => ?_) (fun hb => ?_)
            · have hb : i < s.length := by simp at hb; omega
              obtain ⟨b, hb1⟩ := get_lt hb
              have hmem : b ∈ s := List.mem_iff_getElem?.2 ⟨i, hb1⟩
              simp -dsimp only [↓reduceIte, go_sem, t0, t3, t22, t23]
              refine nth_get hb1 ?_
              have hl := letter_eq b
              have step : letterB b = true → ∀ j c, j < i + 1 → s[j]? = some c → letterB c = true := fun h j c hj hc => by
                by_cases hji : j < i
                · exact hall j c hji hc
                · obtain rfl : j = i := by omega
                  rw [hb1] at hc; cases hc; exact h
              generalize hp : decide ((97 : Int) ≤ b.toNat) = p1 at hl
              generalize hq : decide ((b.toNat : Int) ≤ 122) = p2 at hl
              generalize hr : decide ((48 : Int) ≤ b.toNat) = p3 at hl
              generalize hs : decide ((b.toNat : Int) ≤ 57) = p4 at hl
              generalize ht : ((b.toNat : Int) == 46) = p5 at hl
              generalize hu : ((b.toNat : Int) == 45) = p6 at hl
              generalize hv : ((b.toNat : Int) == 95) = p7 at hl
              cases p1
              · cases p3
                · cases p5
                  · cases p6
                    · cases p7
                      · simp -dsimp only [↓reduceIte, go_sem, t0, t3, t22, t23, hp, hq, hr, hs, ht, hu, hv]
                        simp only [Bool.true_and, Bool.false_and, Bool.or_true, Bool.true_or, Bool.or_false, Bool.false_or, Bool.and_true, Bool.and_false, Bool.or_self, Bool.and_self] at hl
                        exact bad (fun h => by have := h.2.2.2.2 b hmem; rw [hl] at this; cases this)
                      · simp -dsimp only [↓reduceIte, go_sem, t0, t3, t22, t23, hp, hq, hr, hs, ht, hu, hv]
                        simp only [Bool.true_and, Bool.false_and, Bool.or_true, Bool.true_or, Bool.or_false, Bool.false_or, Bool.and_true, Bool.and_false, Bool.or_self, Bool.and_self] at hl
                        first
                        | (rw [wrap_i64 (by omega) (by omega)]; exact ⟨i + 1, by omega, by omega, step hl, rfl⟩)
                        | (rw [wrap_i64 (by omega) (by omega)]; refine later_intro ⟨i + 1, by omega, rfl, by omega, step hl, ?_, ?_, ?_, ?_⟩ <;> (try simp only [go_sem, t0, t3, t22, t23]) <;> rfl)
                    · simp -dsimp only [↓reduceIte, go_sem, t0, t3, t22, t23, hp, hq, hr, hs, ht, hu, hv]
                      simp only [Bool.true_and, Bool.false_and, Bool.or_true, Bool.true_or, Bool.or_false, Bool.false_or, Bool.and_true, Bool.and_false, Bool.or_self, Bool.and_self] at hl
                      first
                      | (rw [wrap_i64 (by omega) (by omega)]; exact ⟨i + 1, by omega, by omega, step hl, rfl⟩)
                      | (rw [wrap_i64 (by omega) (by omega)]; refine later_intro ⟨i + 1, by omega, rfl, by omega, step hl, ?_, ?_, ?_, ?_⟩ <;> (try simp only [go_sem, t0, t3, t22, t23]) <;> rfl)
                  · simp -dsimp only [↓reduceIte, go_sem, t0, t3, t22, t23, hp, hq, hr, hs, ht, hu, hv]
                    simp only [Bool.true_and, Bool.false_and, Bool.or_true, Bool.true_or, Bool.or_false, Bool.false_or, Bool.and_true, Bool.and_false, Bool.or_self, Bool.and_self] at hl
                    first
                    | (rw [wrap_i64 (by omega) (by omega)]; exact ⟨i + 1, by omega, by omega, step hl, rfl⟩)
                    | (rw [wrap_i64 (by omega) (by omega)]; refine later_intro ⟨i + 1, by omega, rfl, by omega, step hl, ?_, ?_, ?_, ?_⟩ <;> (try simp only [go_sem, t0, t3, t22, t23]) <;> rfl)
                · cases p4
                  · cases p5
                    · cases p6
                      · cases p7
                        · simp -dsimp only [↓reduceIte, go_sem, t0, t3, t22, t23, hp, hq, hr, hs, ht, hu, hv]
                          simp only [Bool.true_and, Bool.false_and, Bool.or_true, Bool.true_or, Bool.or_false, Bool.false_or, Bool.and_true, Bool.and_false, Bool.or_self, Bool.and_self] at hl
                          exact bad (fun h => by have := h.2.2.2.2 b hmem; rw [hl] at this; cases this)
                        · simp -dsimp only [↓reduceIte, go_sem, t0, t3, t22, t23, hp, hq, hr, hs, ht, hu, hv]
                          simp only [Bool.true_and, Bool.false_and, Bool.or_true, Bool.true_or, Bool.or_false, Bool.false_or, Bool.and_true, Bool.and_false, Bool.or_self, Bool.and_self] at hl
                          first
                          | (rw [wrap_i64 (by omega) (by omega)]; exact ⟨i + 1, by omega, by omega, step hl, rfl⟩)
                          | (rw [wrap_i64 (by omega) (by omega)]; refine later_intro ⟨i + 1, by omega, rfl, by omega, step hl, ?_, ?_, ?_, ?_⟩ <;> (try simp only [go_sem, t0, t3, t22, t23]) <;> rfl)
                      · simp -dsimp only [↓reduceIte, go_sem, t0, t3, t22, t23, hp, hq, hr, hs, ht, hu, hv]
                        simp only [Bool.true_and, Bool.false_and, Bool.or_true, Bool.true_or, Bool.or_false, Bool.false_or, Bool.and_true, Bool.and_false, Bool.or_self, Bool.and_self] at hl
                        first
                        | (rw [wrap_i64 (by omega) (by omega)]; exact ⟨i + 1, by omega, by omega, step hl, rfl⟩)
                        | (rw [wrap_i64 (by omega) (by omega)]; refine later_intro ⟨i + 1, by omega, rfl, by omega, step hl, ?_, ?_, ?_, ?_⟩ <;> (try simp only [go_sem, t0, t3, t22, t23]) <;> rfl)
                    · simp -dsimp only [↓reduceIte, go_sem, t0, t3, t22, t23, hp, hq, hr, hs, ht, hu, hv]
                      simp only [Bool.true_and, Bool.false_and, Bool.or_true, Bool.true_or, Bool.or_false, Bool.false_or, Bool.and_true, Bool.and_false, Bool.or_self, Bool.and_self] at hl
                      first
                      | (rw [wrap_i64 (by omega) (by omega)]; exact ⟨i + 1, by omega, by omega, step hl, rfl⟩)
                      | (rw [wrap_i64 (by omega) (by omega)]; refine later_intro ⟨i + 1, by omega, rfl, by omega, step hl, ?_, ?_, ?_, ?_⟩ <;> (try simp only [go_sem, t0, t3, t22, t23]) <;> rfl)
                  · simp -dsimp only [↓reduceIte, go_sem, t0, t3, t22, t23, hp, hq, hr, hs, ht, hu, hv]
                    simp only [Bool.true_and, Bool.false_and, Bool.or_true, Bool.true_or, Bool.or_false, Bool.false_or, Bool.and_true, Bool.and_false, Bool.or_self, Bool.and_self] at hl
                    first
                    | (rw [wrap_i64 (by omega) (by omega)]; exact ⟨i + 1, by omega, by omega, step hl, rfl⟩)
                    | (rw [wrap_i64 (by omega) (by omega)]; refine later_intro ⟨i + 1, by omega, rfl, by omega, step hl, ?_, ?_, ?_, ?_⟩ <;> (try simp only [go_sem, t0, t3, t22, t23]) <;> rfl)
              · cases p2
                · cases p3
                  · cases p5
                    · cases p6
                      · cases p7
                        · simp -dsimp only [↓reduceIte, go_sem, t0, t3, t22, t23, hp, hq, hr, hs, ht, hu, hv]
                          simp only [Bool.true_and, Bool.false_and, Bool.or_true, Bool.true_or, Bool.or_false, Bool.false_or, Bool.and_true, Bool.and_false, Bool.or_self, Bool.and_self] at hl
                          exact bad (fun h => by have := h.2.2.2.2 b hmem; rw [hl] at this; cases this)
                        · simp -dsimp only [↓reduceIte, go_sem, t0, t3, t22, t23, hp, hq, hr, hs, ht, hu, hv]
                          simp only [Bool.true_and, Bool.false_and, Bool.or_true, Bool.true_or, Bool.or_false, Bool.false_or, Bool.and_true, Bool.and_false, Bool.or_self, Bool.and_self] at hl
                          first
                          | (rw [wrap_i64 (by omega) (by omega)]; exact ⟨i + 1, by omega, by omega, step hl, rfl⟩)
                          | (rw [wrap_i64 (by omega) (by omega)]; refine later_intro ⟨i + 1, by omega, rfl, by omega, step hl, ?_, ?_, ?_, ?_⟩ <;> (try simp only [go_sem, t0, t3, t22, t23]) <;> rfl)
                      · simp -dsimp only [↓reduceIte, go_sem, t0, t3, t22, t23, hp, hq, hr, hs, ht, hu, hv]
                        simp only [Bool.true_and, Bool.false_and, Bool.or_true, Bool.true_or, Bool.or_false, Bool.false_or, Bool.and_true, Bool.and_false, Bool.or_self, Bool.and_self] at hl
                        first
                        | (rw [wrap_i64 (by omega) (by omega)]; exact ⟨i + 1, by omega, by omega, step hl, rfl⟩)
                        | (rw [wrap_i64 (by omega) (by omega)]; refine later_intro ⟨i + 1, by omega, rfl, by omega, step hl, ?_, ?_, ?_, ?_⟩ <;> (try simp only [go_sem, t0, t3, t22, t23]) <;> rfl)
                    · simp -dsimp only [↓reduceIte, go_sem, t0, t3, t22, t23, hp, hq, hr, hs, ht, hu, hv]
                      simp only [Bool.true_and, Bool.false_and, Bool.or_true, Bool.true_or, Bool.or_false, Bool.false_or, Bool.and_true, Bool.and_false, Bool.or_self, Bool.and_self] at hl
                      first
                      | (rw [wrap_i64 (by omega) (by omega)]; exact ⟨i + 1, by omega, by omega, step hl, rfl⟩)
                      | (rw [wrap_i64 (by omega) (by omega)]; refine later_intro ⟨i + 1, by omega, rfl, by omega, step hl, ?_, ?_, ?_, ?_⟩ <;> (try simp only [go_sem, t0, t3, t22, t23]) <;> rfl)
                  · cases p4
                    · cases p5
                      · cases p6
                        · cases p7
                          · simp -dsimp only [↓reduceIte, go_sem, t0, t3, t22, t23, hp, hq, hr, hs, ht, hu, hv]
                            simp only [Bool.true_and, Bool.false_and, Bool.or_true, Bool.true_or, Bool.or_false, Bool.false_or, Bool.and_true, Bool.and_false, Bool.or_self, Bool.and_self] at hl
                            exact bad (fun h => by have := h.2.2.2.2 b hmem; rw [hl] at this; cases this)
                          · simp -dsimp only [↓reduceIte, go_sem, t0, t3, t22, t23, hp, hq, hr, hs, ht, hu, hv]
                            simp only [Bool.true_and, Bool.false_and, Bool.or_true, Bool.true_or, Bool.or_false, Bool.false_or, Bool.and_true, Bool.and_false, Bool.or_self, Bool.and_self] at hl
                            first
                            | (rw [wrap_i64 (by omega) (by omega)]; exact ⟨i + 1, by omega, by omega, step hl, rfl⟩)
                            | (rw [wrap_i64 (by omega) (by omega)]; refine later_intro ⟨i + 1, by omega, rfl, by omega, step hl, ?_, ?_, ?_, ?_⟩ <;> (try simp only [go_sem, t0, t3, t22, t23]) <;> rfl)
                        · simp -dsimp only [↓reduceIte, go_sem, t0, t3, t22, t23, hp, hq, hr, hs, ht, hu, hv]
                          simp only [Bool.true_and, Bool.false_and, Bool.or_true, Bool.true_or, Bool.or_false, Bool.false_or, Bool.and_true, Bool.and_false, Bool.or_self, Bool.and_self] at hl
                          first
                          | (rw [wrap_i64 (by omega) (by omega)]; exact ⟨i + 1, by omega, by omega, step hl, rfl⟩)
                          | (rw [wrap_i64 (by omega) (by omega)]; refine later_intro ⟨i + 1, by omega, rfl, by omega, step hl, ?_, ?_, ?_, ?_⟩ <;> (try simp only [go_sem, t0, t3, t22, t23]) <;> rfl)
                      · simp -dsimp only [↓reduceIte, go_sem, t0, t3, t22, t23, hp, hq, hr, hs, ht, hu, hv]
                        simp only [Bool.true_and, Bool.false_and, Bool.or_true, Bool.true_or, Bool.or_false, Bool.false_or, Bool.and_true, Bool.and_false, Bool.or_self, Bool.and_self] at hl
                        first
                        | (rw [wrap_i64 (by omega) (by omega)]; exact ⟨i + 1, by omega, by omega, step hl, rfl⟩)
                        | (rw [wrap_i64 (by omega) (by omega)]; refine later_intro ⟨i + 1, by omega, rfl, by omega, step hl, ?_, ?_, ?_, ?_⟩ <;> (try simp only [go_sem, t0, t3, t22, t23]) <;> rfl)
                    · simp -dsimp only [↓reduceIte, go_sem, t0, t3, t22, t23, hp, hq, hr, hs, ht, hu, hv]
                      simp only [Bool.true_and, Bool.false_and, Bool.or_true, Bool.true_or, Bool.or_false, Bool.false_or, Bool.and_true, Bool.and_false, Bool.or_self, Bool.and_self] at hl
                      first
                      | (rw [wrap_i64 (by omega) (by omega)]; exact ⟨i + 1, by omega, by omega, step hl, rfl⟩)
                      | (rw [wrap_i64 (by omega) (by omega)]; refine later_intro ⟨i + 1, by omega, rfl, by omega, step hl, ?_, ?_, ?_, ?_⟩ <;> (try simp only [go_sem, t0, t3, t22, t23]) <;> rfl)
                · simp -dsimp only [↓reduceIte, go_sem, t0, t3, t22, t23, hp, hq, hr, hs, ht, hu, hv]
                  simp only [Bool.true_and, Bool.false_and, Bool.or_true, Bool.true_or, Bool.or_false, Bool.false_or, Bool.and_true, Bool.and_false, Bool.or_self, Bool.and_self] at hl
                  first
                  | (rw [wrap_i64 (by omega) (by omega)]; exact ⟨i + 1, by omega, by omega, step hl, rfl⟩)
                  | (rw [wrap_i64 (by omega) (by omega)]; refine later_intro ⟨i + 1, by omega, rfl, by omega, step hl, ?_, ?_, ?_, ?_⟩ <;> (try simp only [go_sem, t0, t3, t22, t23]) <;> rfl)
            · have hb : i = s.length := by simp at hb; omega
              have ok : s ≠ [] ∧ s.length ≤ 12 ∧ s ≠ [46] ∧ s ≠ [46, 46] ∧ ∀ b ∈ s, letterB b = true := ⟨h1, h2, h3, h4, fun b hb2 => by
                obtain ⟨j, hj⟩ := List.mem_iff_getElem?.1 hb2
                exact hall j b (by have := (List.getElem?_eq_some_iff.1 hj).1; omega) hj⟩
              rw [nameB, decide_eq_true ok] at hK
              simp -dsimp only [↓reduceIte, go_sem, t0, t3, t22, t23]
              exact hK
      · have h3 : s = [46] := by simpa using h3
        simp -dsimp only [↓reduceIte, go_sem]
        exact bad (fun h => h.2.2.1 h3)
    · have h2 : ¬ s.length ≤ 12 := by simp at h2; omega
      simp -dsimp only [↓reduceIte, go_sem]
      exact bad (fun h => h2 h.2.1)
  · have h1 : s = [] := by simpa using h1
    simp -dsimp only [↓reduceIte, go_sem]
    exact bad (fun h => h.1 h1)
end Go.Aff.L21

namespace Go.Aff.L21
open Go.Proofs Go.Aff Go.Aff.L01 Classical
set_option maxRecDepth 20000
attribute [local go_sem] push_app app_app length_app cellAt_app cellAt_app0 set_app set_app0 objs_app objs_app0 List.cons_append List.nil_append List.length_cons List.length_nil List.getElem?_cons_zero List.getElem?_cons_succ List.set_cons_zero List.set_cons_succ
attribute [-go_sem] cellAt_new
attribute [local go_sem] Try.underlying9 fits29 Try.underlying43 fits44 Try.underlying50 p46_0 p46_1 p46_2 p46_3 p46_4 p46_5 Try.underlying84
attribute [local go_sem] fits3 fits9

attribute [local go_sem ↓] blockQ_exit2
end Go.Aff.L21

namespace Go.Aff.L21
open Go.Proofs Go.Aff Go.Aff.L01 Classical
set_option maxRecDepth 20000
attribute [local go_sem] push_app app_app length_app cellAt_app cellAt_app0 set_app set_app0 objs_app objs_app0 List.cons_append List.nil_append List.length_cons List.length_nil List.getElem?_cons_zero List.getElem?_cons_succ List.set_cons_zero List.set_cons_succ
attribute [-go_sem] cellAt_new
attribute [local go_sem] Try.underlying9 fits29 Try.underlying43 fits44 Try.underlying50 p46_0 p46_1 p46_2 p46_3 p46_4 p46_5 Try.underlying84
attribute [local go_sem] fits3 fits9

attribute [local go_sem ↓] blockQ_exit2
structure TLeaf where
  x : Leaf
  t1 : Tk
  t2 : Tk
  t3 : Tk
def leafV (y : TLeaf) : AV := .agg [.int .i64 y.x.num, .int .i64 y.x.kind, .int .i64 y.x.size, .slice y.t1 (y.x.blocks.map (AV.int .i64)), .slice y.t2 (y.x.names.map AV.str), .slice y.t3 (y.x.nodes.map (AV.int .i64))]

theorem right_c {y : TLeaf} {σ : AST} {K : AV → AST → Prop} (hK : K (.bool (decide y.x.Right)) σ) : TCalls Try.prog 112 [leafV y] σ K := by
  refine TCalls.drop ?_
  obtain ⟨x, q1, q2, q3⟩ := y
  unfold leafV
  dsimp only at hK ⊢
  refine tcalls_walk Try.f112 _ [.tmp 2] Try.func112 rfl rfl rfl mixed (Nat.le_of_ble_eq_true rfl) rfl fun hlen => ?_
  have bad : ∀ s, Ext σ s → ¬ x.Right → Ext σ s ∧ (AV.bool false).noRef = true ∧ K (AV.bool false).strip σ := fun s hx h => by
    rw [decide_eq_false h] at hK; exact ⟨hx, rfl, hK⟩
  simp -dsimp only [↓reduceIte, go_sem]
  refine guardV_split (fun h1 => ?_) (fun h1 => ?_) <;> (try rw [h1])
  · have h1 : 1 ≤ x.num := by simp at h1; omega
    simp -dsimp only [↓reduceIte, go_sem]
    refine boolW_split (fun h2 => ?_) (fun h2 => ?_)
    · have h2 : ¬ x.num ≤ 32 := by simp at h2; omega
      simp -dsimp only [↓reduceIte, go_sem]
      exact bad _ (Ext.app _ _) (fun h => h2 h.2.1)
    · have h2 : x.num ≤ 32 := by simp at h2; omega
      simp -dsimp only [↓reduceIte, go_sem]
      refine boolW_split (fun h3 => ?_) (fun h3 => ?_)
      · have h3 : x.kind = 2 := by simpa using h3
        have hR : x.Right ↔ x.File := ⟨fun h => by rcases h.2.2 with h | h; exact h.2; have := h.1; omega, fun h => ⟨h1, h2, .inl ⟨h3, h⟩⟩⟩
        simp -dsimp only [↓reduceIte, go_sem]
        refine arr_intro fun _ => ?_
        simp only [List.length_map]
        simp -dsimp only [↓reduceIte, go_sem]
        have hbl : x.blocks.length ≤ 9223372036854775807 := by
          have := ‹(x.blocks.map (AV.int .i64)).length ≤ maxL›
          simpa [maxL] using this
        generalize hV : AV.agg [.int .i64 x.num, .int .i64 x.kind, .int .i64 x.size, .slice q1 (x.blocks.map (AV.int .i64)), .slice q2 (x.names.map AV.str), .slice q3 (x.nodes.map (AV.int .i64))] = V
        refine awp_rounds (fun (i : Nat) τ s' => s' = σ.app [.cells V] ∧ i ≤ x.blocks.length ∧ (∀ j c, j < i → x.blocks[j]? = some c → 0 ≤ c ∧ c ≤ 1099511627776) ∧ τ 1 = .ptr (some (σ.objs.length, [])) ∧ τ 22 = .slice q1 (x.blocks.map (AV.int .i64)) ∧ τ 23 = .int .i64 x.blocks.length ∧ τ 24 = .int .i64 i) (fun i => x.blocks.length - i) 0 ?_ ?_
        · refine ⟨rfl, by omega, fun j c h => by omega, ?_, ?_, ?_, ?_⟩ <;> (try simp only [go_sem]) <;> rfl
        · rintro i τ s' ⟨rfl, hi, hall, u1, u22, u23, u24⟩
          subst hV
          simp -dsimp only [↓reduceIte, go_sem, u1, u22, u23, u24]
          refine boolW_split (fun hb => ?_) (fun hb => ?_)
          · have hb : i < x.blocks.length := by simp at hb; omega
            obtain ⟨n, hn⟩ := get_lt hb
            have hmem : n ∈ x.blocks := List.mem_iff_getElem?.2 ⟨i, hn⟩
            simp -dsimp only [↓reduceIte, go_sem, u1, u22, u23, u24]
            refine nth_get hn ?_
            simp -dsimp only [↓reduceIte, go_sem, u1, u22, u23, u24]
            refine guardV_split (fun c1 => ?_) (fun c1 => ?_) <;> (try rw [c1])
            · have c1 : 0 ≤ n := by simp at c1; omega
              simp -dsimp only [↓reduceIte, go_sem, u1, u22, u23, u24]
              refine boolW_split (fun c2 => ?_) (fun c2 => ?_)
              · have c2 : ¬ n ≤ 1099511627776 := by simp at c2; omega
                simp -dsimp only [↓reduceIte, go_sem, u1, u22, u23, u24]
                exact bad _ (Ext.app _ _) (fun h => c2 ((hR.1 h).1 n hmem).2)
              · have c2 : n ≤ 1099511627776 := by simp at c2; omega
                simp -dsimp only [↓reduceIte, go_sem, u1, u22, u23, u24]
                rw [wrap_i64 (by omega) (by omega)]
                refine later_intro ⟨i + 1, by omega, rfl, by omega, ?_, ?_, ?_, ?_, ?_⟩ <;> (try simp only [go_sem, u1, u22, u23, u24]) <;> (try rfl)
                intro j c hj hc
                by_cases hji : j < i
                · exact hall j c hji hc
                · obtain rfl : j = i := by omega
                  rw [hn] at hc; cases hc; exact ⟨c1, c2⟩
            · have c1 : ¬ 0 ≤ n := by simp at c1; omega
              simp -dsimp only [↓reduceIte, go_sem, u1, u22, u23, u24]
              exact bad _ (Ext.app _ _) (fun h => c1 ((hR.1 h).1 n hmem).1)
          · have hb : i = x.blocks.length := by simp at hb; omega
            have ha : AllIn 0 1099511627776 x.blocks := fun n hn => by
              obtain ⟨j, hj⟩ := List.mem_iff_getElem?.1 hn
              exact hall j n (by have := (List.getElem?_eq_some_iff.1 hj).1; omega) hj
            simp -dsimp only [↓reduceIte, go_sem, u1, u22, u23, u24]
            refine awp_drawS (id := 11) [0, 1, 2, 3, 4, 5, 6, 7, 8, 9, 10, 11, 12, 13, 14, 15, 16, 17, 18, 19, 20, 21, 22, 23, 24, 25, 26, 27] (by kernel_rfl) ?_
            simp -dsimp only [↓reduceIte, go_sem, u1, u22, u23, u24]
            refine guardV_split (fun c1 => ?_) (fun c1 => ?_) <;> (try rw [c1])
            · have c1 : 0 ≤ x.size := by simp at c1; omega
              simp -dsimp only [↓reduceIte, go_sem, u1, u22, u23, u24]
              refine guardV_split (fun c2 => ?_) (fun c2 => ?_) <;> (try rw [c2])
              · have c2 : x.size ≤ 512 := by simp at c2; omega
                obtain ⟨sz, hsz⟩ : ∃ sz : Nat, x.size = sz := ⟨x.size.toNat, by omega⟩
                simp -dsimp only [↓reduceIte, go_sem, u1, u22, u23, u24]
                refine arr_intro fun _ => ?_
                simp only [List.length_map]
                rw [hsz]
                simp -dsimp only [↓reduceIte, go_sem, u1, u22, u23, u24]
                refine many_c (by omega) ?_
                simp -dsimp only [↓reduceIte, go_sem, u1, u22, u23, u24]
                refine guardV_split (fun c3 => ?_) (fun c3 => ?_) <;> (try rw [c3])
                · have c3 : x.blocks.length = (sz + 31) / 32 := by simp at c3; omega
                  simp -dsimp only [↓reduceIte, go_sem, u1, u22, u23, u24]
                  refine arr_intro fun _ => ?_
                  simp only [List.length_map]
                  simp -dsimp only [↓reduceIte, go_sem, u1, u22, u23, u24]
                  refine arr_intro fun _ => ?_
                  simp only [List.length_map]
                  simp -dsimp only [↓reduceIte, go_sem, u1, u22, u23, u24]
                  have hnl : x.names.length ≤ 9223372036854775807 := by
                    have := ‹(x.names.map AV.str).length ≤ maxL›
                    simpa [maxL] using this
                  have hdl : x.nodes.length ≤ 9223372036854775807 := by
                    have := ‹(x.nodes.map (AV.int .i64)).length ≤ maxL›
                    simpa [maxL] using this
                  refine ⟨Ext.app _ _, rfl, ?_⟩
                  simp only [AV.strip]
                  have e : decide x.Right = (IntKind.i64.wrap ((x.names.length : Int) + (x.nodes.length : Int)) == 0) := by
                    rw [Bool.eq_iff_iff]
                    simp only [decide_eq_true_eq, beq_iff_eq]
                    rw [hR, IntKind.wrap_i64]
                    constructor
                    · intro h
                      rw [h.2.2.2.2.1, h.2.2.2.2.2]; rfl
                    · intro h
                      have h5 : x.names.length = 0 ∧ x.nodes.length = 0 := by omega
                      exact ⟨ha, c1, c2, by omega, List.length_eq_zero_iff.1 h5.1, List.length_eq_zero_iff.1 h5.2⟩
                  rw [e] at hK
                  exact hK
                · have c3 : x.blocks.length ≠ (sz + 31) / 32 := by simp at c3; omega
                  simp -dsimp only [↓reduceIte, go_sem, u1, u22, u23, u24]
                  exact bad _ (Ext.app _ _) (fun h => c3 (by have := (hR.1 h).2.2.2.1; omega))
              · have c2 : ¬ x.size ≤ 512 := by simp at c2; omega
                simp -dsimp only [↓reduceIte, go_sem, u1, u22, u23, u24]
                exact bad _ (Ext.app _ _) (fun h => c2 (hR.1 h).2.2.1)
            · have c1 : ¬ 0 ≤ x.size := by simp at c1; omega
              simp -dsimp only [↓reduceIte, go_sem, u1, u22, u23, u24]
              exact bad _ (Ext.app _ _) (fun h => c1 (hR.1 h).2.1)
      · have h3 : x.kind ≠ 2 := by simpa using h3
        simp -dsimp only [↓reduceIte, go_sem]
        refine boolW_split (fun h4 => ?_) (fun h4 => ?_)
        · have h4 : x.kind = 1 := by simpa using h4
          have hR : x.Right ↔ x.Dir := ⟨fun h => by rcases h.2.2 with h | h; (have := h.1; omega); exact h.2, fun h => ⟨h1, h2, .inr ⟨h4, h⟩⟩⟩
          simp -dsimp only [↓reduceIte, go_sem]
          refine arr_intro fun _ => ?_
          simp only [List.length_map]
          simp -dsimp only [↓reduceIte, go_sem]
          have hnl : x.names.length ≤ 9223372036854775807 := by
            have := ‹(x.names.map AV.str).length ≤ maxL›
            simpa [maxL] using this
          have badn : ∀ s (i : Nat) t, Ext σ s → x.names[i]? = some t → ¬ (nameB t = true ∧ ∀ t', 0 < i → x.names[i - 1]? = some t' → leqS t t' = false) → Ext σ s ∧ (AV.bool false).noRef = true ∧ K (AV.bool false).strip σ := fun s i t hx ht h => bad s hx (fun hr => h ((hR.1 hr).1 i t ht))
          generalize hV : AV.agg [.int .i64 x.num, .int .i64 x.kind, .int .i64 x.size, .slice q1 (x.blocks.map (AV.int .i64)), .slice q2 (x.names.map AV.str), .slice q3 (x.nodes.map (AV.int .i64))] = V
          refine awp_rounds (fun (i : Nat) τ s' => s' = σ.app [.cells V] ∧ i ≤ x.names.length ∧ (∀ (j : Nat) t, j < i → x.names[j]? = some t → nameB t = true ∧ ∀ t', 0 < j → x.names[j - 1]? = some t' → leqS t t' = false) ∧ τ 1 = .ptr (some (σ.objs.length, [])) ∧ τ 65 = .slice q2 (x.names.map AV.str) ∧ τ 66 = .int .i64 x.names.length ∧ τ 67 = .int .i64 i) (fun i => x.names.length - i) 0 ?_ ?_
          · refine ⟨rfl, by omega, fun j c h => by omega, ?_, ?_, ?_, ?_⟩ <;> (try simp only [go_sem]) <;> rfl
          · rintro i τ s' ⟨rfl, hi, hall, u1, u65, u66, u67⟩
            subst hV
            simp -dsimp only [↓reduceIte, go_sem, u1, u65, u66, u67]
            refine boolW_split (fun hb => ?_) (fun hb => ?_)
            · have hb : i < x.names.length := by simp at hb; omega
              obtain ⟨t, ht⟩ := get_lt hb
              have step : (nameB t = true ∧ ∀ t', 0 < i → x.names[i - 1]? = some t' → leqS t t' = false) → ∀ (j : Nat) t, j < i + 1 → x.names[j]? = some t → nameB t = true ∧ ∀ t', 0 < j → x.names[j - 1]? = some t' → leqS t t' = false := fun h j t2 hj ht2 => by
                by_cases hji : j < i
                · exact hall j t2 hji ht2
                · obtain rfl : j = i := by omega
                  rw [ht] at ht2; cases ht2; exact h
              simp -dsimp only [↓reduceIte, go_sem, u1, u65, u66, u67]
              refine nth_get ht ?_
              simp -dsimp only [↓reduceIte, go_sem, u1, u65, u66, u67]
              refine name_c ?_
              simp -dsimp only [↓reduceIte, go_sem, u1, u65, u66, u67]
              refine guardV_split (fun c1 => ?_) (fun c1 => ?_) <;> (try rw [c1])
              · have c1 : nameB t = true := by simpa using c1
                simp -dsimp only [↓reduceIte, go_sem, u1, u65, u66, u67]
                refine guardV_split (fun c2 => ?_) (fun c2 => ?_) <;> (try rw [c2])
                · have c2 : 0 < i := by simp at c2; omega
                  obtain ⟨t', ht'⟩ := get_lt (l := x.names) (i := i - 1) (by omega)
                  simp -dsimp only [↓reduceIte, go_sem, u1, u65, u66, u67]
                  rw [wrap_i64 (n := (i : Int) - 1) (by omega) (by omega), show (i : Int) - 1 = ((i - 1 : Nat) : Int) by omega]
                  refine nth_get ht' ?_
                  simp -dsimp only [↓reduceIte, go_sem, u1, u65, u66, u67]
                  refine boolW_split (fun c3 => ?_) (fun c3 => ?_)
                  · have c3 : leqS t t' = true := c3
                    simp -dsimp only [↓reduceIte, go_sem, u1, u65, u66, u67]
                    exact badn _ i t (Ext.app _ _) ht (fun h => by have := h.2 t' c2 ht'; rw [c3] at this; cases this)
                  · have c3 : leqS t t' = false := c3
                    simp -dsimp only [↓reduceIte, go_sem, u1, u65, u66, u67]
                    rw [wrap_i64 (by omega) (by omega)]
                    refine later_intro ⟨i + 1, by omega, rfl, by omega, step ⟨c1, fun t2 _ h2 => by rw [ht'] at h2; cases h2; exact c3⟩, ?_, ?_, ?_, ?_⟩ <;> (try simp only [go_sem, u1, u65, u66, u67]) <;> rfl
                · have c2 : i = 0 := by simp at c2; omega
                  simp -dsimp only [↓reduceIte, go_sem, u1, u65, u66, u67]
                  rw [wrap_i64 (by omega) (by omega)]
                  refine later_intro ⟨i + 1, by omega, rfl, by omega, step ⟨c1, fun t2 h _ => by omega⟩, ?_, ?_, ?_, ?_⟩ <;> (try simp only [go_sem, u1, u65, u66, u67]) <;> rfl
              · have c1 : nameB t = false := by simpa using c1
                simp -dsimp only [↓reduceIte, go_sem, u1, u65, u66, u67]
                exact badn _ i t (Ext.app _ _) ht (fun h => by have := h.1; rw [c1] at this; cases this)
            · have hb : i = x.names.length := by simp at hb; omega
              have hnames : NamesOk x.names := fun j t hj => hall j t (by have := (List.getElem?_eq_some_iff.1 hj).1; omega) hj
              simp -dsimp only [↓reduceIte, go_sem, u1, u65, u66, u67]
              refine arr_intro fun _ => ?_
              simp only [List.length_map]
              simp -dsimp only [↓reduceIte, go_sem, u1, u65, u66, u67]
              have hdl : x.nodes.length ≤ 9223372036854775807 := by
                have := ‹(x.nodes.map (AV.int .i64)).length ≤ maxL›
                simpa [maxL] using this
              generalize hV : AV.agg [.int .i64 x.num, .int .i64 x.kind, .int .i64 x.size, .slice q1 (x.blocks.map (AV.int .i64)), .slice q2 (x.names.map AV.str), .slice q3 (x.nodes.map (AV.int .i64))] = V
              refine awp_rounds (fun (i : Nat) τ s' => s' = σ.app [.cells V] ∧ i ≤ x.nodes.length ∧ (∀ j c, j < i → x.nodes[j]? = some c → 1 ≤ c ∧ c ≤ 32) ∧ τ 1 = .ptr (some (σ.objs.length, [])) ∧ τ 91 = .slice q3 (x.nodes.map (AV.int .i64)) ∧ τ 92 = .int .i64 x.nodes.length ∧ τ 93 = .int .i64 i) (fun i => x.nodes.length - i) 0 ?_ ?_
              · refine ⟨rfl, by omega, fun j c h => by omega, ?_, ?_, ?_, ?_⟩ <;> (try simp only [go_sem, u1]) <;> rfl
              · rintro i' τ' s'' ⟨rfl, hi', hall', v1, v91, v92, v93⟩
                subst hV
                simp -dsimp only [↓reduceIte, go_sem, v1, v91, v92, v93]
                refine boolW_split (fun hb2 => ?_) (fun hb2 => ?_)
                · have hb2 : i' < x.nodes.length := by simp at hb2; omega
                  obtain ⟨n, hn⟩ := get_lt hb2
                  have hmem : n ∈ x.nodes := List.mem_iff_getElem?.2 ⟨i', hn⟩
                  simp -dsimp only [↓reduceIte, go_sem, v1, v91, v92, v93]
                  refine nth_get hn ?_
                  simp -dsimp only [↓reduceIte, go_sem, v1, v91, v92, v93]
                  refine guardV_split (fun c1 => ?_) (fun c1 => ?_) <;> (try rw [c1])
                  · have c1 : 1 ≤ n := by simp at c1; omega
                    simp -dsimp only [↓reduceIte, go_sem, v1, v91, v92, v93]
                    refine boolW_split (fun c2 => ?_) (fun c2 => ?_)
                    · have c2 : ¬ n ≤ 32 := by simp at c2; omega
                      simp -dsimp only [↓reduceIte, go_sem, v1, v91, v92, v93]
                      exact bad _ (Ext.app _ _) (fun h => c2 ((hR.1 h).2.1 n hmem).2)
                    · have c2 : n ≤ 32 := by simp at c2; omega
                      simp -dsimp only [↓reduceIte, go_sem, v1, v91, v92, v93]
                      rw [wrap_i64 (by omega) (by omega)]
                      refine later_intro ⟨i' + 1, by omega, rfl, by omega, ?_, ?_, ?_, ?_, ?_⟩ <;> (try simp only [go_sem, v1, v91, v92, v93]) <;> (try rfl)
                      intro j c hj hc
                      by_cases hji : j < i'
                      · exact hall' j c hji hc
                      · obtain rfl : j = i' := by omega
                        rw [hn] at hc; cases hc; exact ⟨c1, c2⟩
                  · have c1 : ¬ 1 ≤ n := by simp at c1; omega
                    simp -dsimp only [↓reduceIte, go_sem, v1, v91, v92, v93]
                    exact bad _ (Ext.app _ _) (fun h => c1 ((hR.1 h).2.1 n hmem).1)
                · have hb2 : i' = x.nodes.length := by simp at hb2; omega
                  have ha : AllIn 1 32 x.nodes := fun n hn => by
                    obtain ⟨j, hj⟩ := List.mem_iff_getElem?.1 hn
                    exact hall' j n (by have := (List.getElem?_eq_some_iff.1 hj).1; omega) hj
                  simp -dsimp only [↓reduceIte, go_sem, v1, v91, v92, v93]
                  refine guardV_split (fun c1 => ?_) (fun c1 => ?_) <;> (try rw [c1])
                  · have c1 : x.size = 0 := by simpa using c1
                    simp -dsimp only [↓reduceIte, go_sem, v1, v91, v92, v93]
                    refine arr_intro fun _ => ?_
                    simp only [List.length_map]
                    simp -dsimp only [↓reduceIte, go_sem, v1, v91, v92, v93]
                    refine guardV_split (fun c2 => ?_) (fun c2 => ?_) <;> (try rw [c2])
                    · have c2 : x.blocks = [] := by
                        have : x.blocks.length = 0 := by simp at c2; simp; omega
                        exact List.length_eq_zero_iff.1 this
                      simp -dsimp only [↓reduceIte, go_sem, v1, v91, v92, v93]
                      refine arr_intro fun _ => ?_
                      simp only [List.length_map]
                      simp -dsimp only [↓reduceIte, go_sem, v1, v91, v92, v93]
                      refine arr_intro fun _ => ?_
                      simp only [List.length_map]
                      simp -dsimp only [↓reduceIte, go_sem, v1, v91, v92, v93]
                      refine ⟨Ext.app _ _, rfl, ?_⟩
                      simp only [AV.strip]
                      have e : decide x.Right = ((x.names.length : Int) == (x.nodes.length : Int)) := by
                        rw [Bool.eq_iff_iff]
                        simp only [decide_eq_true_eq, beq_iff_eq]
                        rw [hR]
                        constructor
                        · intro h; rw [h.2.2.2.2]
                        · intro h; exact ⟨hnames, ha, c1, c2, by omega⟩
                      rw [e] at hK
                      exact hK
                    · have c2 : x.blocks ≠ [] := by rintro h; rw [h] at c2; simp at c2
                      simp -dsimp only [↓reduceIte, go_sem, v1, v91, v92, v93]
                      exact bad _ (Ext.app _ _) (fun h => c2 (hR.1 h).2.2.2.1)
                  · have c1 : x.size ≠ 0 := by simpa using c1
                    simp -dsimp only [↓reduceIte, go_sem, v1, v91, v92, v93]
                    exact bad _ (Ext.app _ _) (fun h => c1 (hR.1 h).2.2.1)
        · have h4 : x.kind ≠ 1 := by simpa using h4
          simp -dsimp only [↓reduceIte, go_sem]
          exact bad _ (Ext.app _ _) (fun h => by rcases h.2.2 with h | h; exact h3 h.1; exact h4 h.1)
  · have h1 : ¬ 1 ≤ x.num := by simp at h1; omega
    simp -dsimp only [↓reduceIte, go_sem]
    exact bad _ (Ext.app _ _) (fun h => h1 h.1)
end Go.Aff.L21

namespace Go.Aff.L21
open Go.Proofs Go.Aff Go.Aff.L01 Classical
set_option maxRecDepth 20000
attribute [local go_sem] push_app app_app length_app cellAt_app cellAt_app0 set_app set_app0 objs_app objs_app0 List.cons_append List.nil_append List.length_cons List.length_nil List.getElem?_cons_zero List.getElem?_cons_succ List.set_cons_zero List.set_cons_succ
attribute [-go_sem] cellAt_new
attribute [local go_sem] Try.underlying9 fits29 Try.underlying43 fits44 Try.underlying50 p46_0 p46_1 p46_2 p46_3 p46_4 p46_5 Try.underlying84
attribute [local go_sem] fits3 fits9

attribute [local go_sem ↓] blockQ_exit2
end Go.Aff.L21

