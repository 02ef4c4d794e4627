import Derived.Test.YtnpbneiaflgpdaaG19
import Derived.Test.YtnpbneiaflgpdaaG17
import Derived.Test.YtnpbneiaflgpdaaG18

set_option linter.unusedSimpArgs false
set_option linter.unusedVariables false

/- Layer 1, walked: the reference's texts that are read; how a list begins. -/
namespace Go.Aff.L01
open Go.Proofs Go.Aff
set_option linter.unusedVariables false
set_option maxRecDepth 20000
set_option linter.unusedSimpArgs false
attribute [local go_sem] Try.underlying3 Try.underlying4 Try.underlying5 Try.underlying9 Try.underlying52 Try.underlying120 Try.underlying34

theorem ReadText_c {s : List UInt8} {i : Int} (hi0 : -9223372036854775808 ≤ i) (hi1 : i ≤ 9223372036854775807) {σ : AST} {K : AV → AST → Prop}
    (hK : K (tupT (textR s i)) σ) : TCalls Try.prog 93 [.str s, .int .i64 i] σ K := by
  refine tcalls_walk Try.f93 _ [.tmp 4, .tmp 5, .tmp 6] Try.func93 rfl rfl rfl mixed (Nat.le_of_ble_eq_true rfl) rfl fun hlen => ?_
  have hs : s.length ≤ 9223372036854775807 := hlen (.str s) (by simp)
  refine awp_seq_k fun KA hKA => ?_
  simp -dsimp only [↓reduceIte, go_sem]
  refine hKA _ _ (awp_seq_k fun KB hKB => ?_)
  have go : ∀ τ : Env, τ 0 = .str s → τ 1 = .int .i64 i → ¬ (i < 0 ∨ (s.length : Int) < i) → KB τ σ := by
    intro τ t0 t1 hok
    have hi : (i.toNat : Int) = i := by omega
    rw [textR, if_neg hok] at hK
    generalize hp : i.toNat = q at hi hK
    have hql : q ≤ s.length := by omega
    rw [← hi] at t1
    have hel := dend_le hql
    have heq : q ≤ dend s q := by unfold dend; omega
    rw [textP] at hK
    refine hKB _ _ ?_
    simp -dsimp only [↓reduceIte, go_sem, t0, t1]
    refine end_c hql ?_
    simp -dsimp only [↓reduceIte, go_sem, t0, t1]
    refine bad_c (last := 58) heq hel ?_
    generalize hsh : shapeS s q (dend s q) 58 = sh at *
    simp -dsimp only [↓reduceIte, go_sem, t0, t1]
    refine boolW_split (fun h1 => ?_) (fun h1 => ?_)
    · have h1 : sh ≠ 0 := by simpa using h1
      rw [if_pos h1] at hK
      simp -dsimp only [↓reduceIte, go_sem, t0, t1]
      exact hK
    · have h1 : sh = 0 := by simpa using h1
      rw [if_neg (by simp [h1])] at hK
      rw [h1] at hsh
      have hlt := shape_ok hsh hel
      have hee : dend s q = q + (digs s q).length := rfl
      have hDg : ∀ k, k < (digs s q).length → (digs s q)[k]? = s[q + k]? := fun k hk => digs_get hk
      have hDd : ∀ b ∈ digs s q, 48 ≤ b.toNat ∧ b.toNat ≤ 57 := fun b hb => by have := digs_isD b hb; simpa [isD] using this
      generalize hD : digs s q = D at *
      generalize hE : dend s q = e at *
      simp -dsimp only [↓reduceIte, go_sem, t0, t1]
      refine awp_rounds (fun (k : Nat) τ s' => s' = σ ∧ τ 0 = .str s ∧ τ 7 = .int .i64 e ∧ τ 10 = .int .i64 (q + k : Nat) ∧ k ≤ D.length ∧ τ 9 = .int .i64 (val (D.take k) : Nat) ∧ val (D.take k) ≤ 16384) (fun k => D.length - k) 0 ?_ ?_
      · refine ⟨rfl, ?_, ?_, ?_, by omega, ?_, by simp [val]⟩ <;> simp only [go_sem, t0, t1] <;> rfl
      · rintro k τ s' ⟨rfl, t0, t7, t10, hk, t9, hv⟩
        simp -dsimp only [↓reduceIte, go_sem, t0, t7, t9, t10]
        refine boolW_split (fun h2 => ?_) (fun h2 => ?_)
        · have h2 : k < D.length := by simp at h2; omega
          obtain ⟨b, hb⟩ := get_lt h2
          have hbs := hDg k h2
          rw [hb] at hbs
          have hbd := hDd b (List.mem_iff_getElem?.2 ⟨k, hb⟩)
          have hval := val_take_succ hb
          simp -dsimp only [↓reduceIte, go_sem, t0, t7, t9, t10]
          refine nth_get hbs.symm ?_
          simp -dsimp only [↓reduceIte, go_sem, t0, t7, t9, t10]
          have hn : IntKind.i64.wrap (IntKind.i64.wrap (IntKind.i64.wrap ((val (D.take k) : Nat) * 10 : Int) + IntKind.i64.wrap (b.toNat : Int)) - 48) = ((val (D.take (k + 1)) : Nat) : Int) := by
            rw [wrap_i64 (n := (b.toNat : Int)) (by omega) (by omega), wrap_i64 (n := ((val (D.take k) : Nat) * 10 : Int)) (by omega) (by omega), wrap_i64 (n := ((val (D.take k) : Nat) * 10 : Int) + _) (by omega) (by omega), wrap_i64 (by omega) (by omega), hval]; omega
          rw [hn]
          refine boolW_split (fun h3 => ?_) (fun h3 => ?_)
          · have hm := val_mono (D := D) (k + 1)
            have h3 : 16384 < val D := by simp at h3; omega
            rw [if_pos h3] at hK
            simp -dsimp only [↓reduceIte, go_sem, t0, t7, t9, t10]
            exact hK
          · have h3 : val (D.take (k + 1)) ≤ 16384 := by simp at h3; omega
            simp -dsimp only [↓reduceIte, go_sem, t0, t7, t9, t10]
            refine later_intro ⟨k + 1, by omega, rfl, ?_, ?_, ?_, by omega, ?_, h3⟩ <;> simp only [go_sem, t0, t7, t9, t10]
            rw [wrap_i64 (by omega) (by omega)]; congr 1
        · have h2 : k = D.length := by simp at h2; omega
          subst h2
          rw [List.take_length] at t9 hv
          rw [if_neg (by omega)] at hK
          simp -dsimp only [↓reduceIte, go_sem, t0, t7, t9, t10]
          refine arr_intro fun _ => ?_
          simp -dsimp only [↓reduceIte, go_sem, t0, t7, t9, t10]
          rw [wrap_i64 (n := (s.length : Int) - _) (by omega) (by omega), wrap_i64 (by omega) (by omega)]
          have he1 : IntKind.i64.wrap ((e : Int) + 1) = ((e + 1 : Nat) : Int) := by rw [wrap_i64 (by omega) (by omega)]; omega
          refine boolW_split (fun h3 => ?_) (fun h3 => ?_)
          · have h3 : s.length < e + 1 + val D := by simp at h3; omega
            rw [if_pos h3] at hK
            simp -dsimp only [↓reduceIte, go_sem, t0, t7, t9, t10]
            exact hK
          · have h3 : ¬ s.length < e + 1 + val D := by simp at h3; omega
            rw [if_neg h3] at hK
            have hfin : IntKind.i64.wrap (((e + 1 : Nat) : Int) + (val D : Int)) = ((e + 1 + val D : Nat) : Int) := by rw [wrap_i64 (by omega) (by omega)]; omega
            simp -dsimp only [↓reduceIte, go_sem, t0, t7, t9, t10]
            rw [he1]
            refine side_later (by omega) ?_
            simp -dsimp only [↓reduceIte, go_sem, t0, t7, t9, t10]
            rw [hfin]
            refine side_later (by omega) ?_
            simp -dsimp only [↓reduceIte, go_sem, t0, t7, t9, t10]
            refine ⟨by omega, by omega, later_intro ?_⟩
            simp -dsimp only [↓reduceIte, go_sem, t0, t7, t9, t10]
            rw [he1, hfin]
            exact hK
  have bad : i < 0 ∨ (s.length : Int) < i → K (tupT ([], 0, 3)) σ := fun h => by
    rw [textR, if_pos h] at hK; exact hK
  simp -dsimp only [↓reduceIte, go_sem]
  refine guardV_split (fun h1 => ?_) (fun h1 => ?_) <;> (try rw [h1])
  · have h1 : ¬ i < 0 := by simpa using h1
    simp -dsimp only [↓reduceIte, go_sem]
    refine arr_intro fun _ => ?_
    simp -dsimp only [↓reduceIte, go_sem]
    refine boolW_split (fun h2 => ?_) (fun h2 => ?_)
    · have h2 : (s.length : Int) < i := by simpa using h2
      simp -dsimp only [↓reduceIte, go_sem]
      exact bad (.inr h2)
    · have h2 : ¬ (s.length : Int) < i := by simpa using h2
      simp -dsimp only [↓reduceIte, go_sem]
      refine go _ ?_ ?_ (by omega) <;> simp only [go_sem]
  · have h1 : i < 0 := by simpa using h1
    simp -dsimp only [↓reduceIte, go_sem]
    exact bad (.inl h1)
end Go.Aff.L01

/- Walking: variables in memory, structs. -/
namespace Go.Aff
set_option linter.unusedVariables false
set_option linter.unusedSimpArgs false

variable {P : Program} {σ σ' : AST} {K : AV → AST → Prop} {KV : AV → Prop} {KS : AST → Prop}

/-- What a place of memory holds. -/
def objCell (o : AObj) (p : List Nat) : Option AV := match o with
  | .cells v => v.at p
  | _ => none
def cellAt (σ : AST) (j : Nat) (p : List Nat) : Option AV := (σ.objs[j]?).bind fun o => objCell o p

theorem cellAt_new {o : AObj} {p : List Nat} : cellAt (σ.push o) σ.objs.length p = objCell o p := by simp [cellAt, AST.push]
theorem cellAt_old {o : AObj} {j : Nat} {p : List Nat} (h : j < σ.objs.length) : cellAt (σ.push o) j p = cellAt σ j p := by simp [cellAt, AST.push, List.getElem?_append_left h]
theorem cellAt_tok {n es j : Nat} {p : List Nat} : cellAt (σ.tok n es) j p = cellAt σ j p := nr rfl
theorem cellAt_setTok {t n es j : Nat} {p : List Nat} : cellAt (σ.setTok t n es) j p = cellAt σ j p := nr rfl
theorem cellAt_growS {tk : Tk} {n es j : Nat} {p : List Nat} : cellAt (growS σ tk n es) j p = cellAt σ j p := by cases tk <;> rfl
theorem objCell_cells {v : AV} {p : List Nat} : objCell (.cells v) p = v.at p := nr rfl
theorem at_agg {ps : List AV} {i : Nat} {p : List Nat} : (AV.agg ps).at (i :: p) = (ps[i]?).bind fun v => v.at p := nr rfl
theorem length_push {o : AObj} : (σ.push o).objs.length = σ.objs.length + 1 := by simp [AST.push]
theorem length_tok {n es : Nat} : (σ.tok n es).objs.length = σ.objs.length := nr rfl
theorem length_setTok {t n es : Nat} : (σ.setTok t n es).objs.length = σ.objs.length := nr rfl
theorem length_growS {tk : Tk} {n es : Nat} : (growS σ tk n es).objs.length = σ.objs.length := by cases tk <;> rfl
theorem length_set {i : Nat} {o : AObj} : (σ.set i o).objs.length = σ.objs.length := by simp [AST.set]

def loadC (P : Program) (t : TypeId) (x : Option AV) (K : AV → Prop) : Prop := match x with
  | some x => fits P t x ∧ K x
  | none => False
theorem load_ptr {t : TypeId} {j : Nat} {p : List Nat} : loadW P σ t (.ptr (some (j, p))) KV = loadC P t (cellAt σ j p) KV := by
  simp only [loadW, cellAt]
  cases h : σ.objs[j]? with
  | none => simp [loadC]
  | some o =>
    cases o with
    | cells v => simp only [Option.bind_some, objCell, loadC]; cases v.at p <;> rfl
    | _ => simp [objCell, loadC]
theorem loadC_some {t : TypeId} {x : AV} : loadC P t (some x) KV = (fits P t x ∧ @Later ⟨KV x⟩) := nr rfl

def fieldAddrC (P : Program) (t : TypeId) (x : Option AV) (j : Nat) (p : List Nat) (i : Nat) (K : AV → Prop) : Prop := match x with
  | some (.agg ps) => match ps[i]? with
    | some x => partIs P t ps i x ∧ 0 < x.size ∧ K (.ptr (some (j, p ++ [i])))
    | none => False
  | _ => False
def fieldAddrP (P : Program) (t : TypeId) (ps : List AV) (x : Option AV) (j : Nat) (p : List Nat) (i : Nat) (K : AV → Prop) : Prop := match x with
  | some x => partIs P t ps i x ∧ 0 < x.size ∧ K (.ptr (some (j, p ++ [i])))
  | none => False
theorem fieldAddr_ptr {t : TypeId} {j i : Nat} {p : List Nat} : fieldAddrW P σ t (.ptr (some (j, p))) i KV = fieldAddrC P t (cellAt σ j p) j p i KV := by
  simp only [fieldAddrW, cellAt]
  cases h : σ.objs[j]? with
  | none => simp [fieldAddrC]
  | some o =>
    cases o with
    | cells v => simp only [Option.bind_some, objCell, fieldAddrC]; cases v.at p <;> rfl
    | _ => simp [objCell, fieldAddrC]
theorem fieldAddrC_agg {t : TypeId} {ps : List AV} {j i : Nat} {p : List Nat} : fieldAddrC P t (some (.agg ps)) j p i KV = fieldAddrP P t ps ps[i]? j p i KV := nr rfl
theorem fieldAddrP_some {t : TypeId} {ps : List AV} {x : AV} {j i : Nat} {p : List Nat} : fieldAddrP P t ps (some x) j p i KV = ((partIs P t ps i x ∧ 0 < x.size) ∧ @Later ⟨KV (.ptr (some (j, p ++ [i])))⟩) := by
  simp [fieldAddrP, Later, and_assoc]
def fieldAddrE (P : Program) (t : TypeId) (ps : List AV) (x : Option AV) (i : Nat) (K : AV → Prop) : Prop := match x with
  | some x => partIs P t ps i x ∧ 0 < x.size ∧ K (.eptr x)
  | none => False
theorem fieldAddr_eptr {t : TypeId} {ps : List AV} {i : Nat} : fieldAddrW P σ t (.eptr (.agg ps)) i KV = fieldAddrE P t ps ps[i]? i KV := nr rfl
theorem fieldAddrE_some {t : TypeId} {ps : List AV} {x : AV} {i : Nat} : fieldAddrE P t ps (some x) i KV = ((partIs P t ps i x ∧ 0 < x.size) ∧ @Later ⟨KV (.eptr x)⟩) := by
  simp [fieldAddrE, Later, and_assoc]
def fieldE (P : Program) (t : TypeId) (ps : List AV) (x : Option AV) (i : Nat) (K : AV → Prop) : Prop := match x with
  | some x => partIs P t ps i x ∧ K x
  | none => False
theorem field_agg {t : TypeId} {ps : List AV} {i : Nat} : fieldW P t (.agg ps) i KV = fieldE P t ps ps[i]? i KV := nr rfl
theorem fieldE_some {t : TypeId} {ps : List AV} {x : AV} {i : Nat} : fieldE P t ps (some x) i KV = (partIs P t ps i x ∧ @Later ⟨KV x⟩) := nr rfl

theorem partIs_of {t : TypeId} {i o : Nat} {T : TypeId} (h : placeOf P t i = some (o, T)) {ps : List AV} {x : AV} : partIs P t ps i x = (o = AV.sizes (ps.take i) ∧ fits P T x) := by
  simp only [partIs, h, Option.some.injEq, Prod.mk.injEq, eq_iff_iff]
  constructor
  · rintro ⟨_, ⟨h1, rfl⟩, h2⟩; exact ⟨h1, h2⟩
  · rintro ⟨h1, h2⟩; exact ⟨T, ⟨h1, rfl⟩, h2⟩

attribute [go_sem] cellAt_new cellAt_tok cellAt_setTok cellAt_growS objCell_cells at_nil at_agg length_push length_tok length_setTok length_growS length_set load_ptr loadC_some fieldAddr_ptr fieldAddrC_agg fieldAddrP_some
attribute [go_sem] fieldAddr_eptr fieldAddrE_some field_agg fieldE_some Option.bind_some List.take_zero List.take_succ_cons Nat.reduceEqDiff Nat.zero_add Nat.zero_lt_one and_self List.map_cons List.map_nil List.append_nil
end Go.Aff

/- Layer 1, walked: lists that are read. -/
namespace Go.Aff.L01
open Go.Proofs Go.Aff
set_option linter.unusedVariables false
set_option maxRecDepth 20000
set_option linter.unusedSimpArgs false
attribute [local go_sem] Try.underlying3 Try.underlying4 Try.underlying5 Try.underlying9 Try.underlying52 Try.underlying120 Try.underlying34 Try.underlying31 fits3 fits9

/-- Items one behind the other, up to the bracket. -/
def readL {α : Type} (one : Nat → α × Int × Int) (s : List UInt8) (p : Nat) (acc : List α) : List α × Int × Int :=
  if p = s.length then ([], 0, 5) else
  if bAt s p = 41 then (acc, ((p + 1 : Nat) : Int), 0) else
  if 512 ≤ acc.length then ([], 0, 4) else
  if (one p).2.2 ≠ 0 then ([], 0, (one p).2.2) else
  if h : (p : Int) < (one p).2.1 ∧ (one p).2.1 ≤ s.length then readL one s (one p).2.1.toNat (acc ++ [(one p).1]) else ([], 0, 5)
termination_by s.length - p
decreasing_by omega

/-- What reading a list comes to. -/
def readR {α : Type} (one : Nat → α × Int × Int) (s : List UInt8) (i : Int) : List α × Int × Int :=
  if i < 0 ∨ (s.length : Int) < i then ([], 0, 3) else
  if i.toNat = s.length then ([], 0, 5) else
  if bAt s i.toNat ≠ 40 then ([], 0, 6) else readL one s (i.toNat + 1) []
def tupL {α : Type} (f : α → AV) (x : List α × Int × Int) : AV := .tuple [if x.1 = [] then .slice .full [] else .slice .none (x.1.map f), .int .i64 x.2.1, .int .i64 x.2.2]
def tk' {α : Type} (l : List α) : Tk := if l = [] then .full else .none

theorem strip_own {k : Nat} {xs : List AV} : (AV.slice (.own k) xs).strip = .slice .none (AV.strips xs) := by simp [AV.strip]
theorem strips_map {α : Type} {f : α → AV} (h : ∀ x, (f x).strip = f x) : ∀ {l : List α}, AV.strips (l.map f) = l.map f
  | [] => rfl
  | x :: r => by simp [AV.strips, h, strips_map h (l := r)]
theorem noRefs_map {α : Type} {f : α → AV} (h : ∀ x, (f x).noRef = true) : ∀ {l : List α}, AV.noRefs (l.map f) = true
  | [] => rfl
  | x :: r => by simp [AV.noRefs, h, noRefs_map h (l := r)]

theorem numR_nat {s : List UInt8} {q : Nat} (h : q ≤ s.length) : numR s q = numP s q := by
  rw [numR, if_neg (by omega)]; simp
theorem textR_nat {s : List UInt8} {q : Nat} (h : q ≤ s.length) : textR s q = textP s q := by
  rw [textR, if_neg (by omega)]; simp
theorem numP_prog {s : List UInt8} {q : Nat} (h : q ≤ s.length) : (numP s q).2.2 = 0 → (q : Int) < (numP s q).2.1 ∧ (numP s q).2.1 ≤ s.length := by
  have hl : lowB s q = true → q < s.length := fun h => by simp [lowB] at h; exact h.1
  unfold numP
  generalize hw : lowB s q = low at *
  generalize hq : (if low = true then q + 1 else q) = r
  have hr : q ≤ r ∧ r ≤ s.length := by rw [← hq]; split; (have := hl (by assumption); omega); omega
  have hel := dend_le hr.2
  have heq : r ≤ dend s r := by unfold dend; omega
  generalize (if low = true then 9223372036854775808 else 9223372036854775807) = most
  unfold numT
  split
  · intro h0; dsimp only at h0; contradiction
  · split
    · intro h0; cases h0
    · split
      · intro h0; cases h0
      · intro _
        rename_i h1 _ _ _
        have := shape_ok (by simpa using h1) hel
        dsimp only; omega
theorem textP_prog {s : List UInt8} {q : Nat} (h : q ≤ s.length) : (textP s q).2.2 = 0 → (q : Int) < (textP s q).2.1 ∧ (textP s q).2.1 ≤ s.length := by
  have hel := dend_le h
  have heq : q ≤ dend s q := by unfold dend; omega
  unfold textP
  split
  · intro h0; dsimp only at h0; contradiction
  · split
    · intro h0; cases h0
    · split
      · intro h0; cases h0
      · intro _
        dsimp only; omega
theorem readNumber_n {s : List UInt8} {q : Nat} (h : q ≤ s.length) (hs : s.length ≤ 9223372036854775807) {σ : AST} {K : AV → AST → Prop} (hK : K (tup3 (numP s q)) σ) : TCalls Try.prog 66 [.str s, .int .i64 q] σ K :=
  readNumber_c (by omega) (by omega) (by rw [numR_nat h]; exact hK)
theorem readText_n {s : List UInt8} {q : Nat} (h : q ≤ s.length) (hs : s.length ≤ 9223372036854775807) {σ : AST} {K : AV → AST → Prop} (hK : K (tupT (textP s q)) σ) : TCalls Try.prog 88 [.str s, .int .i64 q] σ K :=
  readText_c (by omega) (by omega) (by rw [textR_nat h]; exact hK)

theorem readInts_c {s : List UInt8} {i : Int} (hi0 : -9223372036854775808 ≤ i) (hi1 : i ≤ 9223372036854775807) {σ : AST} {K : AV → AST → Prop}
    (hK : K (tupL (AV.int .i64) (readR (numP s) s i)) σ) : TCalls Try.prog 90 [.str s, .int .i64 i, .fn (.func 66) [] []] σ K := by
  refine TCalls.drop ?_
  refine tcalls_walk Try.f90 _ [.tmp 6, .tmp 7, .tmp 8] Try.func90 rfl rfl rfl mixed (Nat.le_of_ble_eq_true rfl) rfl fun hlen => ?_
  have hs : s.length ≤ 9223372036854775807 := hlen (.str s) (by simp)
  have leaf : ∀ x, ((AV.int .i64) x).strip = (AV.int .i64) x ∧ ((AV.int .i64) x).noRef = true := fun x => ⟨by simp [AV.strip], rfl⟩
  have nil : ∀ (a b : Int) (s' : AST), Ext σ s' → K (tupL (AV.int .i64) ([], a, b)) σ → Ext σ s' ∧ (AV.tuple [.slice .full [], .int .i64 a, .int .i64 b]).noRef = true ∧ K (AV.tuple [.slice .full [], .int .i64 a, .int .i64 b]).strip σ := fun a b s' hx h => ⟨hx, rfl, h⟩
  refine awp_seq_k fun KA hKA => ?_
  simp -dsimp only [↓reduceIte, go_sem]
  refine hKA _ _ (awp_seq_k fun KB hKB => ?_)
  have go : ∀ τ : Env, τ 0 = .str s → τ 1 = .int .i64 i → τ 2 = .fn (.func 66) [] [] → ¬ (i < 0 ∨ (s.length : Int) < i) → i.toNat ≠ s.length → bAt s i.toNat = 40 → KB τ σ := by
    intro τ t0 t1 t2 hok hne h40
    rw [readR, if_neg hok, if_neg hne, if_neg (by simp [h40])] at hK
    have hi : (i.toNat : Int) = i := by omega
    generalize hp : i.toNat = p at hi hK hne
    rw [← hi] at t1
    refine hKB _ _ ?_
    simp -dsimp only [↓reduceIte, go_sem, t0, t1, t2]
    rw [show IntKind.i64.wrap ((p : Int) + 1) = ((p + 1 : Nat) : Int) by rw [wrap_i64 (by omega) (by omega)]; omega]
    refine awp_rounds (fun (x : Nat × List Int) τ s' => x.1 ≤ s.length ∧ x.2.length ≤ 512 ∧ Ext σ s' ∧ τ 0 = .str s ∧ τ 1 = .int .i64 x.1 ∧ τ 2 = .fn (.func 66) [] [] ∧
      K (tupL (AV.int .i64) (readL (numP s) s x.1 x.2)) σ ∧ ∃ tk, (x.2 = [] ∧ tk = .full ∨ x.2 ≠ [] ∧ ∃ k, tk = .own k ∧ σ.toks.length ≤ k) ∧ canApp s' tk x.2.length 1 ∧ τ 9 = .slice tk (x.2.map (AV.int .i64))) (fun x => s.length - x.1) (p + 1, []) ?_ ?_
    · refine ⟨by dsimp only; omega, by simp, Ext.refl _, ?_, ?_, ?_, hK, .full, .inl ⟨rfl, rfl⟩, trivial, ?_⟩ <;> simp only [go_sem, t0, t1, t2] <;> rfl
    · rintro ⟨q, acc⟩ τ s' ⟨hq, hacc, hx, t0, t1, t2, hK, tk, htk, hcan, t9⟩
      dsimp only at hq hacc t1 hK htk hcan t9
      have htn : tkNew σ tk := by
        rcases htk with ⟨_, h⟩ | ⟨_, h⟩
        · exact .inl h
        · exact .inr h
      rw [readL] at hK
      simp -dsimp only [↓reduceIte, go_sem, t0, t1, t2, t9]
      refine arr_intro fun _ => ?_
      simp -dsimp only [↓reduceIte, go_sem, t0, t1, t2, t9]
      refine boolW_split (fun h1 => ?_) (fun h1 => ?_)
      · have h1 : q = s.length := by simp at h1; omega
        rw [if_pos h1] at hK
        simp -dsimp only [↓reduceIte, go_sem, t0, t1, t2, t9]
        exact nil _ _ _ hx hK
      · have h1 : ¬ q = s.length := by simp at h1; omega
        rw [if_neg h1] at hK
        obtain ⟨b, hb⟩ := get_lt (l := s) (i := q) (by omega)
        rw [bAt_of hb] at hK
        simp -dsimp only [↓reduceIte, go_sem, t0, t1, t2, t9]
        refine nth_get hb ?_
        simp -dsimp only [↓reduceIte, go_sem, t0, t1, t2, t9]
        refine boolW_split (fun h2 => ?_) (fun h2 => ?_)
        · have h2 : b.toNat = 41 := by simp at h2; omega
          rw [if_pos h2] at hK
          simp -dsimp only [↓reduceIte, go_sem, t0, t1, t2, t9]
          rw [show IntKind.i64.wrap ((q : Int) + 1) = ((q + 1 : Nat) : Int) by rw [wrap_i64 (by omega) (by omega)]; omega]
          refine ⟨hx, ?_, ?_⟩
          · simp only [AV.noRef, AV.noRefs, noRefs_map (fun x => (leaf x).2), Bool.and_true]
          · simp only [AV.strip, AV.strips]
            rcases htk with ⟨rfl, rfl⟩ | ⟨hn, k, rfl, _⟩
            · exact hK
            · rw [strip_own, strips_map (fun x => (leaf x).1)]
              rw [tupL, if_neg hn] at hK
              exact hK
        · have h2 : ¬ b.toNat = 41 := by simp at h2; omega
          rw [if_neg h2] at hK
          simp -dsimp only [↓reduceIte, go_sem, t0, t1, t2, t9]
          refine arr_intro fun _ => ?_
          simp only [List.length_map]
          simp -dsimp only [↓reduceIte, go_sem, t0, t1, t2, t9]
          refine boolW_split (fun h3 => ?_) (fun h3 => ?_)
          · have h3 : 512 ≤ acc.length := by simp at h3; omega
            rw [if_pos h3] at hK
            simp -dsimp only [↓reduceIte, go_sem, t0, t1, t2, t9]
            exact nil _ _ _ hx hK
          · have h3 : ¬ 512 ≤ acc.length := by simp at h3; omega
            rw [if_neg h3] at hK
            simp -dsimp only [↓reduceIte, go_sem, t0, t1, t2, t9]
            refine readNumber_n (by omega) (by omega) ?_
            have hpr := numP_prog (s := s) (q := q) (by omega)
            generalize numP s q = res at hK hpr
            obtain ⟨x, nx, e⟩ := res
            dsimp only at hK hpr
            simp only [tup3]
            simp -dsimp only [↓reduceIte, go_sem, t0, t1, t2, t9]
            refine boolW_split (fun h4 => ?_) (fun h4 => ?_)
            · have h4 : e ≠ 0 := by simpa using h4
              rw [if_pos h4] at hK
              simp -dsimp only [↓reduceIte, go_sem, t0, t1, t2, t9]
              exact nil _ _ _ hx hK
            · have h4 : e = 0 := by simpa using h4
              obtain ⟨hp1, hp2⟩ := hpr h4
              rw [if_neg (by simp [h4]), dif_pos ⟨hp1, hp2⟩] at hK
              simp -dsimp only [↓reduceIte, go_sem, t0, t1, t2, t9]
              refine build_slice E25 rfl (by decide) ?_ ?_
              · intro v hv
                simp at hv; subst hv
                exact ⟨by simp only [go_sem], rfl⟩
              simp -dsimp only [↓reduceIte, go_sem, t0, t1, t2, t9]
              refine append_slice E25 (by rfl) (by simpa using hcan) (by intro v hv; simp at hv; subst hv; simp only [go_sem]) (by intro v hv; simp at hv; obtain ⟨y, _, rfl⟩ := hv; simp only [go_sem]) (by simp; omega) (by simp [maxL]; omega) ?_
              simp -dsimp only [↓reduceIte, go_sem, t0, t1, t2, t9]
              refine later_intro ⟨(nx.toNat, acc ++ [x]), by dsimp only; omega, ?_⟩
              refine ⟨by dsimp only; omega, by simp; omega, hx.grow htn, ?_, ?_, ?_, hK, growT s' tk, ?_, ?_, ?_⟩ <;> (try simp only [go_sem, t0, t1, t2, t9])
              · rw [show ((nx.toNat : Nat) : Int) = nx by omega]
              · refine .inr ⟨by simp, ?_⟩
                rcases htn.grow hx with h | h
                · rcases htk with ⟨_, rfl⟩ | ⟨_, k, rfl, _⟩ <;> simp [growT] at h
                · exact h
              · have := canApp_grow (n := acc.length + 1) (es := 1) hcan
                simpa using this
              · simp
  have bad : i < 0 ∨ (s.length : Int) < i → K (tupL (AV.int .i64) ([], 0, 3)) σ := fun h => by
    rw [readR, if_pos h] at hK; exact hK
  simp -dsimp only [↓reduceIte, go_sem]
  refine guardV_split (fun h1 => ?_) (fun h1 => ?_) <;> (try rw [h1])
  · have h1 : ¬ i < 0 := by simpa using h1
    simp -dsimp only [↓reduceIte, go_sem]
    refine arr_intro fun _ => ?_
    simp -dsimp only [↓reduceIte, go_sem]
    refine boolW_split (fun h2 => ?_) (fun h2 => ?_)
    · have h2 : (s.length : Int) < i := by simpa using h2
      simp -dsimp only [↓reduceIte, go_sem]
      exact nil _ _ _ (Ext.refl _) (bad (.inr h2))
    · have h2 : ¬ (s.length : Int) < i := by simpa using h2
      have hok : ¬ (i < 0 ∨ (s.length : Int) < i) := by omega
      have hi : (i.toNat : Int) = i := by omega
      simp -dsimp only [↓reduceIte, go_sem]
      refine arr_intro fun _ => ?_
      simp -dsimp only [↓reduceIte, go_sem]
      refine boolW_split (fun h3 => ?_) (fun h3 => ?_)
      · have h3 : i.toNat = s.length := by simp at h3; omega
        rw [readR, if_neg hok, if_pos h3] at hK
        simp -dsimp only [↓reduceIte, go_sem]
        exact nil _ _ _ (Ext.refl _) hK
      · have h3 : i.toNat ≠ s.length := by simp at h3; omega
        obtain ⟨b, hb⟩ := get_lt (l := s) (i := i.toNat) (by omega)
        have hbb := bAt_of hb
        simp -dsimp only [↓reduceIte, go_sem]
        rw [← hi]
        refine nth_get hb ?_
        simp -dsimp only [↓reduceIte, go_sem]
        refine boolW_split (fun h4 => ?_) (fun h4 => ?_)
        · have h4 : bAt s i.toNat ≠ 40 := by rw [hbb]; simp at h4; omega
          rw [readR, if_neg hok, if_neg h3, if_pos h4] at hK
          simp -dsimp only [↓reduceIte, go_sem]
          exact nil _ _ _ (Ext.refl _) hK
        · have h4 : bAt s i.toNat = 40 := by rw [hbb]; simp at h4; omega
          simp -dsimp only [↓reduceIte, go_sem]
          refine go _ ?_ ?_ ?_ hok h3 h4 <;> simp only [go_sem, hi]
  · have h1 : i < 0 := by simpa using h1
    simp -dsimp only [↓reduceIte, go_sem]
    exact nil _ _ _ (Ext.refl _) (bad (.inl h1))

end Go.Aff.L01

/- Layer 1, walked: the reference's lists that are read. -/
namespace Go.Aff.L01
open Go.Proofs Go.Aff
set_option linter.unusedVariables false
set_option maxRecDepth 20000
set_option linter.unusedSimpArgs false
attribute [local go_sem] Try.underlying3 Try.underlying4 Try.underlying5 Try.underlying9 Try.underlying52 Try.underlying120 Try.underlying34 Try.underlying31 fits3 fits9

def openE (s : List UInt8) (i : Int) : Int := if i < 0 ∨ (s.length : Int) < i then 3 else if i.toNat = s.length then 5 else if bAt s i.toNat ≠ 40 then 6 else 0
theorem open_ok {s : List UInt8} {i : Int} (h : openE s i = 0) : ¬ (i < 0 ∨ (s.length : Int) < i) ∧ i.toNat ≠ s.length ∧ bAt s i.toNat = 40 := by
  unfold openE at h
  split at h
  · cases h
  · split at h
    · cases h
    · split at h
      · cases h
      · rename_i a b c; exact ⟨a, b, Classical.not_not.1 c⟩
theorem open_bad {α : Type} {one : Nat → α × Int × Int} {s : List UInt8} {i : Int} (h : openE s i ≠ 0) : readR one s i = ([], 0, openE s i) := by
  unfold openE at h ⊢; unfold readR
  split
  · rfl
  · split
    · rfl
    · split
      · rfl
      · rename_i a b c; rw [if_neg a, if_neg b, if_neg c] at h; exact absurd rfl h

theorem open_c {s : List UInt8} {i : Int} (hi0 : -9223372036854775808 ≤ i) (hi1 : i ≤ 9223372036854775807) {σ : AST} {K : AV → AST → Prop} (hK : K (.int .i64 (openE s i)) σ) : TCalls Try.prog 94 [.str s, .int .i64 i] σ K := by
  refine tcalls_walk Try.f94 _ [.tmp 4] Try.func94 rfl rfl rfl mixed (Nat.le_of_ble_eq_true rfl) rfl fun hlen => ?_
  unfold openE at hK
  have go : ∀ b, (decide (i < 0) = b) → True := fun _ _ => trivial
  simp -dsimp only [↓reduceIte, go_sem]
  refine guardV_split (fun h1 => ?_) (fun h1 => ?_) <;> (try rw [h1])
  · have h1 : ¬ i < 0 := by simpa using h1
    simp -dsimp only [↓reduceIte, go_sem]
    refine arr_intro fun _ => ?_
    simp -dsimp only [↓reduceIte, go_sem]
    refine boolW_split (fun h2 => ?_) (fun h2 => ?_)
    · have h2 : (s.length : Int) < i := by simpa using h2
      rw [if_pos (.inr h2)] at hK
      simp -dsimp only [↓reduceIte, go_sem]
      exact hK
    · have h2 : ¬ (s.length : Int) < i := by simpa using h2
      rw [if_neg (by omega)] at hK
      simp -dsimp only [↓reduceIte, go_sem]
      refine arr_intro fun _ => ?_
      simp -dsimp only [↓reduceIte, go_sem]
      refine boolW_split (fun h3 => ?_) (fun h3 => ?_)
      · have h3 : i.toNat = s.length := by simp at h3; omega
        rw [if_pos h3] at hK
        simp -dsimp only [↓reduceIte, go_sem]
        exact hK
      · have h3 : i.toNat ≠ s.length := by simp at h3; omega
        rw [if_neg h3] at hK
        obtain ⟨b, hb⟩ := get_lt (l := s) (i := i.toNat) (by omega)
        rw [bAt_of hb] at hK
        have hi : (i.toNat : Int) = i := by omega
        simp -dsimp only [↓reduceIte, go_sem]
        rw [← hi]
        refine nth_get hb ?_
        simp -dsimp only [↓reduceIte, go_sem]
        refine boolW_split (fun h4 => ?_) (fun h4 => ?_)
        · have h4 : b.toNat ≠ 40 := by simp at h4; omega
          rw [if_pos h4] at hK
          simp -dsimp only [↓reduceIte, go_sem]
          exact hK
        · have h4 : b.toNat = 40 := by simp at h4; omega
          rw [if_neg (by simp [h4])] at hK
          simp -dsimp only [↓reduceIte, go_sem]
          exact hK
  · have h1 : i < 0 := by simpa using h1
    rw [if_pos (.inl h1)] at hK
    simp -dsimp only [↓reduceIte, go_sem]
    exact hK

theorem ReadNumbers_c {s : List UInt8} {i : Int} (hi0 : -9223372036854775808 ≤ i) (hi1 : i ≤ 9223372036854775807) {σ : AST} {K : AV → AST → Prop}
    (hK : K (tupL (AV.int .i64) (readR (numP s) s i)) σ) : TCalls Try.prog 76 [.str s, .int .i64 i] σ K := by
  refine TCalls.drop ?_
  refine tcalls_walk Try.f76 _ [.tmp 4, .tmp 5, .tmp 6] Try.func76 rfl rfl rfl mixed (Nat.le_of_ble_eq_true rfl) rfl fun hlen => ?_
  have hs : s.length ≤ 9223372036854775807 := hlen (.str s) (by simp)
  have leaf : ∀ x, ((AV.int .i64) x).strip = (AV.int .i64) x ∧ ((AV.int .i64) x).noRef = true := fun x => ⟨by simp [AV.strip], rfl⟩
  have nil : ∀ (a b : Int) (s' : AST), Ext σ s' → K (tupL (AV.int .i64) ([], a, b)) σ → Ext σ s' ∧ (AV.tuple [.slice .full [], .int .i64 a, .int .i64 b]).noRef = true ∧ K (AV.tuple [.slice .full [], .int .i64 a, .int .i64 b]).strip σ := fun a b s' hx h => ⟨hx, rfl, h⟩
  simp -dsimp only [↓reduceIte, go_sem]
  refine open_c hi0 hi1 ?_
  by_cases ho : openE s i = 0
  · obtain ⟨hok, hne, h40⟩ := open_ok ho
    rw [ho]
    rw [readR, if_neg hok, if_neg hne, if_neg (by simp [h40])] at hK
    have hi : (i.toNat : Int) = i := by omega
    generalize hp : i.toNat = p at hi hK hne
    simp -dsimp only [↓reduceIte, go_sem]
    rw [← hi, show IntKind.i64.wrap ((p : Int) + 1) = ((p + 1 : Nat) : Int) by rw [wrap_i64 (by omega) (by omega)]; omega]
    refine awp_rounds (fun (x : Nat × List Int) τ s' => x.1 ≤ s.length ∧ x.2.length ≤ 512 ∧ Ext σ s' ∧ τ 0 = .str s ∧ τ 1 = .int .i64 x.1 ∧
      K (tupL (AV.int .i64) (readL (numP s) s x.1 x.2)) σ ∧ ∃ tk, (x.2 = [] ∧ tk = .full ∨ x.2 ≠ [] ∧ ∃ k, tk = .own k ∧ σ.toks.length ≤ k) ∧ canApp s' tk x.2.length 1 ∧ τ 8 = .slice tk (x.2.map (AV.int .i64))) (fun x => s.length - x.1) (p + 1, []) ?_ ?_
    · refine ⟨by dsimp only; omega, by simp, Ext.refl _, ?_, ?_, hK, .full, .inl ⟨rfl, rfl⟩, trivial, ?_⟩ <;> simp only [go_sem] <;> rfl
    · rintro ⟨q, acc⟩ τ s' ⟨hq, hacc, hx, t0, t1, hK, tk, htk, hcan, t9⟩
      dsimp only at hq hacc t1 hK htk hcan t9
      have htn : tkNew σ tk := by
        rcases htk with ⟨_, h⟩ | ⟨_, h⟩
        · exact .inl h
        · exact .inr h
      rw [readL] at hK
      simp -dsimp only [↓reduceIte, go_sem, t0, t1, t9]
      refine arr_intro fun _ => ?_
      simp -dsimp only [↓reduceIte, go_sem, t0, t1, t9]
      refine guardV_split (fun h1 => ?_) (fun h1 => ?_) <;> (try rw [h1])
      · have h1 : q < s.length := by simp at h1; omega
        rw [if_neg (by omega)] at hK
        obtain ⟨b, hb⟩ := get_lt h1
        rw [bAt_of hb] at hK
        simp -dsimp only [↓reduceIte, go_sem, t0, t1, t9]
        refine nth_get hb ?_
        simp -dsimp only [↓reduceIte, go_sem, t0, t1, t9]
        refine boolW_split (fun h2 => ?_) (fun h2 => ?_)
        · have h2 : ¬ b.toNat = 41 := by simp at h2; omega
          rw [if_neg h2] at hK
          simp -dsimp only [↓reduceIte, go_sem, t0, t1, t9]
          refine arr_intro fun _ => ?_
          simp only [List.length_map]
          simp -dsimp only [↓reduceIte, go_sem, t0, t1, t9]
          refine boolW_split (fun h3 => ?_) (fun h3 => ?_)
          · have h3 : 512 ≤ acc.length := by simp at h3; omega
            rw [if_pos h3] at hK
            simp -dsimp only [↓reduceIte, go_sem, t0, t1, t9]
            exact nil _ _ _ hx hK
          · have h3 : ¬ 512 ≤ acc.length := by simp at h3; omega
            rw [if_neg h3] at hK
            simp -dsimp only [↓reduceIte, go_sem, t0, t1, t9]
            refine ReadNumber_c (by omega) (by omega) ?_
            rw [numR_nat (by omega)]
            have hpr := numP_prog (s := s) (q := q) (by omega)
            generalize numP s q = res at hK hpr
            obtain ⟨x, nx, e⟩ := res
            dsimp only at hK hpr
            simp only [tup3]
            simp -dsimp only [↓reduceIte, go_sem, t0, t1, t9]
            refine boolW_split (fun h4 => ?_) (fun h4 => ?_)
            · have h4 : e ≠ 0 := by simpa using h4
              rw [if_pos h4] at hK
              simp -dsimp only [↓reduceIte, go_sem, t0, t1, t9]
              exact nil _ _ _ hx hK
            · have h4 : e = 0 := by simpa using h4
              obtain ⟨hp1, hp2⟩ := hpr h4
              rw [if_neg (by simp [h4]), dif_pos ⟨hp1, hp2⟩] at hK
              simp -dsimp only [↓reduceIte, go_sem, t0, t1, t9]
              refine build_slice E25 rfl (by decide) ?_ ?_
              · intro v hv
                simp at hv; subst hv
                exact ⟨by simp only [go_sem], rfl⟩
              simp -dsimp only [↓reduceIte, go_sem, t0, t1, t9]
              refine append_slice E25 (by rfl) (by simpa using hcan) (by intro v hv; simp at hv; subst hv; simp only [go_sem]) (by intro v hv; simp at hv; obtain ⟨y, _, rfl⟩ := hv; simp only [go_sem]) (by simp; omega) (by simp [maxL]; omega) ?_
              simp -dsimp only [↓reduceIte, go_sem, t0, t1, t9]
              refine later_intro ⟨(nx.toNat, acc ++ [x]), by dsimp only; omega, ?_⟩
              refine ⟨by dsimp only; omega, by simp; omega, hx.grow htn, ?_, ?_, hK, growT s' tk, ?_, ?_, ?_⟩ <;> (try simp only [go_sem, t0, t1, t9])
              · rw [show ((nx.toNat : Nat) : Int) = nx by omega]
              · refine .inr ⟨by simp, ?_⟩
                rcases htn.grow hx with h | h
                · rcases htk with ⟨_, rfl⟩ | ⟨_, k, rfl, _⟩ <;> simp [growT] at h
                · exact h
              · have := canApp_grow (n := acc.length + 1) (es := 1) hcan
                simpa using this
              · simp
        · have h2 : b.toNat = 41 := by simp at h2; omega
          rw [if_pos h2] at hK
          simp -dsimp only [↓reduceIte, go_sem, t0, t1, t9]
          refine arr_intro fun _ => ?_
          simp -dsimp only [↓reduceIte, go_sem, t0, t1, t9]
          refine boolW_split (fun h3 => ?_) (fun h3 => ?_)
          · simp at h3; omega
          · simp -dsimp only [↓reduceIte, go_sem, t0, t1, t9]
            rw [show IntKind.i64.wrap ((q : Int) + 1) = ((q + 1 : Nat) : Int) by rw [wrap_i64 (by omega) (by omega)]; omega]
            refine ⟨hx, ?_, ?_⟩
            · simp only [AV.noRef, AV.noRefs, noRefs_map (fun x => (leaf x).2), Bool.and_true]
            · simp only [AV.strip, AV.strips]
              rcases htk with ⟨rfl, rfl⟩ | ⟨hn, k, rfl, _⟩
              · exact hK
              · rw [strip_own, strips_map (fun x => (leaf x).1)]
                rw [tupL, if_neg hn] at hK
                exact hK
      · have h1 : q = s.length := by simp at h1; omega
        rw [if_pos h1] at hK
        simp -dsimp only [↓reduceIte, go_sem, t0, t1, t9]
        refine arr_intro fun _ => ?_
        simp -dsimp only [↓reduceIte, go_sem, t0, t1, t9]
        refine boolW_split (fun h3 => ?_) (fun h3 => ?_)
        · simp -dsimp only [↓reduceIte, go_sem, t0, t1, t9]
          exact nil _ _ _ hx hK
        · simp at h3; omega
  · have hb := open_bad (one := numP s) ho
    rw [hb] at hK
    simp -dsimp only [↓reduceIte, go_sem]
    rw [show (openE s i != 0) = true by simpa using ho]
    simp -dsimp only [↓reduceIte, go_sem]
    exact nil _ _ _ (Ext.refl _) hK

end Go.Aff.L01

/- Layer 1, walked: lists compared; lists that are read, by their names. -/
namespace Go.Aff.L01
open Go.Proofs Go.Aff
set_option linter.unusedVariables false
set_option maxRecDepth 20000
set_option linter.unusedSimpArgs false
attribute [local go_sem] Try.underlying3 Try.underlying4 Try.underlying5 Try.underlying9 Try.underlying52 Try.underlying120 Try.underlying34 Try.underlying31 fits3 fits9

theorem readNumbers_c {s : List UInt8} {i : Int} (hi0 : -9223372036854775808 ≤ i) (hi1 : i ≤ 9223372036854775807) {σ : AST} {K : AV → AST → Prop}
    (hK : K (tupL (AV.int .i64) (readR (numP s) s i)) σ) : TCalls Try.prog 71 [.str s, .int .i64 i] σ K := by
  refine tcalls_walk Try.f71 _ [.tmp 4, .tmp 5, .tmp 6] Try.func71 rfl rfl rfl mixed (Nat.le_of_ble_eq_true rfl) rfl fun hlen => ?_
  simp -dsimp only [↓reduceIte, go_sem]
  refine readInts_c hi0 hi1 ?_
  unfold tupL at hK ⊢
  generalize readR (numP s) s i = r at hK ⊢
  obtain ⟨l, n, e⟩ := r
  dsimp only at hK ⊢
  split
  · rename_i h; rw [if_pos h] at hK
    simp -dsimp only [↓reduceIte, go_sem]
    exact hK
  · rename_i h; rw [if_neg h] at hK
    simp -dsimp only [↓reduceIte, go_sem]
    exact hK
theorem ints_c {a b : List Int} {ta tb : Tk} {σ : AST} {K : AV → AST → Prop} (hK : K (.bool (decide (a = b))) σ) : TCalls Try.prog 51 [.slice ta (a.map (AV.int .i64)), .slice tb (b.map (AV.int .i64))] σ K := by
  refine tcalls_walk Try.f51 _ [.tmp 4] Try.func51 rfl rfl rfl mixed (Nat.le_of_ble_eq_true rfl) rfl fun hlen => ?_
  have ha : a.length ≤ 9223372036854775807 := by
    have := hlen (.slice ta (a.map (AV.int .i64))) (by simp)
    simp only [lenOk, List.length_map, maxL] at this; exact this
  simp -dsimp only [↓reduceIte, go_sem]
  refine arr_intro fun _ => ?_
  simp -dsimp only [↓reduceIte, go_sem]
  refine arr_intro fun _ => ?_
  simp only [List.length_map]
  simp -dsimp only [↓reduceIte, go_sem]
  refine boolW_split (fun h1 => ?_) (fun h1 => ?_)
  · have h1 : a.length ≠ b.length := by simp at h1; omega
    simp -dsimp only [↓reduceIte, go_sem]
    rw [show decide (a = b) = false by simp; intro h; rw [h] at h1; exact h1 rfl] at hK
    exact hK
  · have h1 : a.length = b.length := by simp at h1; omega
    simp -dsimp only [↓reduceIte, go_sem]
    refine awp_rounds (fun (i : Nat) τ s => s = σ ∧ i ≤ a.length ∧ τ 0 = .slice ta (a.map (AV.int .i64)) ∧ τ 1 = .slice tb (b.map (AV.int .i64)) ∧ τ 5 = .int .i64 i ∧ a.take i = b.take i) (fun i => a.length - i) 0 ?_ ?_
    · refine ⟨rfl, by omega, ?_, ?_, ?_, by simp⟩ <;> simp only [go_sem] <;> rfl
    · rintro i τ s ⟨rfl, hi, t0, t1, t5, ht⟩
      simp -dsimp only [↓reduceIte, go_sem, t0, t1, t5]
      refine arr_intro fun _ => ?_
      simp only [List.length_map]
      simp -dsimp only [↓reduceIte, go_sem, t0, t1, t5]
      refine boolW_split (fun h2 => ?_) (fun h2 => ?_)
      · have h2 : i < a.length := by simp at h2; omega
        obtain ⟨x, hx⟩ := get_lt h2
        obtain ⟨y, hy⟩ := get_lt (l := b) (i := i) (by omega)
        simp -dsimp only [↓reduceIte, go_sem, t0, t1, t5]
        refine awp_drawS [0, 1, 2, 3, 4, 5, 6, 7, 8] (by kernel_rfl) ?_
        simp -dsimp only [↓reduceIte, go_sem, t0, t1, t5]
        refine nth_get hx ?_
        simp -dsimp only [↓reduceIte, go_sem, t0, t1, t5]
        refine nth_get hy ?_
        simp -dsimp only [↓reduceIte, go_sem, t0, t1, t5]
        refine boolW_split (fun h3 => ?_) (fun h3 => ?_)
        · have h3 : x ≠ y := by simpa using h3
          simp -dsimp only [↓reduceIte, go_sem, t0, t1, t5]
          rw [show decide (a = b) = false by simp; intro h; rw [h, hy] at hx; exact h3 (Option.some.inj hx).symm] at hK
          exact hK
        · have h3 : x = y := by simpa using h3
          simp -dsimp only [↓reduceIte, go_sem, t0, t1, t5]
          rw [wrap_i64 (by omega) (by omega)]
          refine later_intro ⟨i + 1, by omega, ?_⟩
          refine ⟨rfl, by omega, ?_, ?_, ?_, ?_⟩ <;> (try simp only [go_sem, t0, t1, t5]) <;> try rfl
          rw [List.take_add_one, List.take_add_one, ht, hx, hy, h3]
      · have h2 : i = a.length := by simp at h2; omega
        simp -dsimp only [↓reduceIte, go_sem, t0, t1, t5]
        rw [h2, List.take_length, h1, List.take_length] at ht
        rw [show decide (a = b) = true by simpa using ht] at hK
        exact hK

end Go.Aff.L01

