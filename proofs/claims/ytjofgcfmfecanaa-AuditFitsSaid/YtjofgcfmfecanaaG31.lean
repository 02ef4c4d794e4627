import Derived.Test.YtjofgcfmfecanaaG29
import Derived.Test.YtjofgcfmfecanaaG30

set_option linter.unusedSimpArgs false
set_option linter.unusedVariables false

/- Layer 32: structs. -/
namespace Go.Aff.L10
open Go.Proofs Go.Aff Go.Aff.L01 Classical
set_option linter.unusedVariables false
set_option linter.unusedSimpArgs false
set_option maxRecDepth 20000
structure Post where
  frm : Int
  to : Int
  b : List UInt8
def post0 : Post := ⟨0, 0, []⟩
def postPs (x : Post) : List AV := [.int .i64 x.frm, .int .i64 x.to, .str x.b]
abbrev postV (x : Post) : AV := .agg (postPs x)
theorem postPs_0 {x : Post} : (postPs x)[0]? = some (.int .i64 x.frm) := nr rfl
theorem postAt_0 {x : Post} {v : AV} : partIs Try.prog 34 (postPs x) 0 v = fits Try.prog 3 v := by rw [partIs_of (o := 0) (T := 3) (by kernel_rfl)]; simp [postPs, AV.sizes, AV.size]
theorem postSet_0 {x : Post} {y : Int} : (postPs x).set 0 (.int .i64 y) = postPs { x with frm := y } := nr rfl
theorem postPs_1 {x : Post} : (postPs x)[1]? = some (.int .i64 x.to) := nr rfl
theorem postAt_1 {x : Post} {v : AV} : partIs Try.prog 34 (postPs x) 1 v = fits Try.prog 3 v := by rw [partIs_of (o := 1) (T := 3) (by kernel_rfl)]; simp [postPs, AV.sizes, AV.size]
theorem postSet_1 {x : Post} {y : Int} : (postPs x).set 1 (.int .i64 y) = postPs { x with to := y } := nr rfl
theorem postPs_2 {x : Post} : (postPs x)[2]? = some (.str x.b) := nr rfl
theorem postAt_2 {x : Post} {v : AV} : partIs Try.prog 34 (postPs x) 2 v = fits Try.prog 9 v := by rw [partIs_of (o := 2) (T := 9) (by kernel_rfl)]; simp [postPs, AV.sizes, AV.size]
theorem postSet_2 {x : Post} {y : List UInt8} : (postPs x).set 2 (.str y) = postPs { x with b := y } := nr rfl
theorem sizes_post {x : Post} : AV.sizes (postPs x) = 3 := by simp [postPs, AV.sizes, AV.size]
theorem shapes_post {x : Post} : AV.shapes (postPs x) = [.leaf, .leaf, .leaf] := by simp [postPs, AV.shapes, AV.shape]
theorem fits_post {v : AV} : fits Try.prog 34 v = (v.isAgg = true ∧ v.size = 3) := fits_agg (by kernel_rfl) (by kernel_rfl)
theorem zero_post : zeroA Try.prog 12 34 = .agg (postPs post0) := by kernel_rfl
theorem zt_post : ZeroOf Try.prog 34 (.agg (postPs post0)) = True := eq_true ⟨_, _, rfl, rfl, rfl, rfl, rfl⟩
theorem built_post : Built Try.prog 34 = True := eq_true (by unfold Built; rw [Try.underlying34]; decide +kernel)
theorem strip_post {x : Post} : AV.strips (postPs x) = postPs x := by simp [postPs, AV.strips, AV.strip]
theorem noRef_post {x : Post} : AV.noRefs (postPs x) = true := by simp [postPs, AV.noRefs, AV.noRef]
structure Key where
  kind : Int
  who : Int
  number : Int
def key0 : Key := ⟨0, 0, 0⟩
def keyPs (x : Key) : List AV := [.int .i64 x.kind, .int .i64 x.who, .int .i64 x.number]
abbrev keyV (x : Key) : AV := .agg (keyPs x)
theorem keyPs_0 {x : Key} : (keyPs x)[0]? = some (.int .i64 x.kind) := nr rfl
theorem keyAt_0 {x : Key} {v : AV} : partIs Try.prog 74 (keyPs x) 0 v = fits Try.prog 3 v := by rw [partIs_of (o := 0) (T := 3) (by kernel_rfl)]; simp [keyPs, AV.sizes, AV.size]
theorem keySet_0 {x : Key} {y : Int} : (keyPs x).set 0 (.int .i64 y) = keyPs { x with kind := y } := nr rfl
theorem keyPs_1 {x : Key} : (keyPs x)[1]? = some (.int .i64 x.who) := nr rfl
theorem keyAt_1 {x : Key} {v : AV} : partIs Try.prog 74 (keyPs x) 1 v = fits Try.prog 3 v := by rw [partIs_of (o := 1) (T := 3) (by kernel_rfl)]; simp [keyPs, AV.sizes, AV.size]
theorem keySet_1 {x : Key} {y : Int} : (keyPs x).set 1 (.int .i64 y) = keyPs { x with who := y } := nr rfl
theorem keyPs_2 {x : Key} : (keyPs x)[2]? = some (.int .i64 x.number) := nr rfl
theorem keyAt_2 {x : Key} {v : AV} : partIs Try.prog 74 (keyPs x) 2 v = fits Try.prog 3 v := by rw [partIs_of (o := 2) (T := 3) (by kernel_rfl)]; simp [keyPs, AV.sizes, AV.size]
theorem keySet_2 {x : Key} {y : Int} : (keyPs x).set 2 (.int .i64 y) = keyPs { x with number := y } := nr rfl
theorem sizes_key {x : Key} : AV.sizes (keyPs x) = 3 := by simp [keyPs, AV.sizes, AV.size]
theorem shapes_key {x : Key} : AV.shapes (keyPs x) = [.leaf, .leaf, .leaf] := by simp [keyPs, AV.shapes, AV.shape]
theorem fits_key {v : AV} : fits Try.prog 74 v = (v.isAgg = true ∧ v.size = 3) := fits_agg (by kernel_rfl) (by kernel_rfl)
theorem zero_key : zeroA Try.prog 12 74 = .agg (keyPs key0) := by kernel_rfl
theorem zt_key : ZeroOf Try.prog 74 (.agg (keyPs key0)) = True := eq_true ⟨_, _, rfl, rfl, rfl, rfl, rfl⟩
theorem built_key : Built Try.prog 74 = True := eq_true (by unfold Built; rw [Try.underlying74]; decide +kernel)
theorem strip_key {x : Key} : AV.strips (keyPs x) = keyPs x := by simp [keyPs, AV.strips, AV.strip]
theorem noRef_key {x : Key} : AV.noRefs (keyPs x) = true := by simp [keyPs, AV.noRefs, AV.noRef]
structure Con where
  k : Key
  b : List UInt8
def con0 : Con := ⟨key0, []⟩
def conPs (x : Con) : List AV := [.agg (keyPs x.k), .str x.b]
abbrev conV (x : Con) : AV := .agg (conPs x)
theorem conPs_0 {x : Con} : (conPs x)[0]? = some (.agg (keyPs x.k)) := nr rfl
theorem conAt_0 {x : Con} {v : AV} : partIs Try.prog 76 (conPs x) 0 v = fits Try.prog 74 v := by rw [partIs_of (o := 0) (T := 74) (by kernel_rfl)]; simp [conPs, AV.sizes, AV.size]
theorem conSet_0 {x : Con} {y : Key} : (conPs x).set 0 (.agg (keyPs y)) = conPs { x with k := y } := nr rfl
theorem conPs_1 {x : Con} : (conPs x)[1]? = some (.str x.b) := nr rfl
theorem conAt_1 {x : Con} {v : AV} : partIs Try.prog 76 (conPs x) 1 v = fits Try.prog 9 v := by rw [partIs_of (o := 3) (T := 9) (by kernel_rfl)]; simp [conPs, AV.sizes, AV.size, sizes_key]
theorem conSet_1 {x : Con} {y : List UInt8} : (conPs x).set 1 (.str y) = conPs { x with b := y } := nr rfl
theorem sizes_con {x : Con} : AV.sizes (conPs x) = 4 := by simp [conPs, AV.sizes, AV.size, sizes_key]
theorem shapes_con {x : Con} : AV.shapes (conPs x) = [.node [.leaf, .leaf, .leaf], .leaf] := by simp [conPs, AV.shapes, AV.shape, shapes_key]
theorem fits_con {v : AV} : fits Try.prog 76 v = (v.isAgg = true ∧ v.size = 4) := fits_agg (by kernel_rfl) (by kernel_rfl)
theorem zero_con : zeroA Try.prog 12 76 = .agg (conPs con0) := by kernel_rfl
theorem zt_con : ZeroOf Try.prog 76 (.agg (conPs con0)) = True := eq_true ⟨_, _, rfl, rfl, rfl, rfl, rfl⟩
theorem built_con : Built Try.prog 76 = True := eq_true (by unfold Built; rw [Try.underlying76]; decide +kernel)
theorem strip_con {x : Con} : AV.strips (conPs x) = conPs x := by simp [conPs, AV.strips, AV.strip, strip_key]
theorem noRef_con {x : Con} : AV.noRefs (conPs x) = true := by simp [conPs, AV.noRefs, AV.noRef, noRef_key]
end Go.Aff.L10

/- Layer 32: keys compared. -/
namespace Go.Aff.L10
open Go.Proofs Go.Aff Go.Aff.L01 Classical
set_option linter.unusedVariables false
set_option linter.unusedSimpArgs false
set_option maxRecDepth 20000
theorem eq_key {n : Nat} {a b : Key} : eqA Try.prog (n + 10) 74 (.agg (keyPs a)) (.agg (keyPs b)) = some (decide (a = b)) := by
  have hs : Try.prog.stoodInHeld 74 = false := by kernel_rfl
  simp only [eqA, Try.underlying74, hs, if_true]
  unfold keyPs
  rw [eqAs_cons ⟨by decide, by simp [AV.sizes, AV.size], by simp [AV.sizes, AV.size], by kernel_rfl, by simp [AV.size]; kernel_rfl, by kernel_rfl, by simp [AV.size]; kernel_rfl⟩ eq_int3]
  refine (Classical.em (a.kind = b.kind)).elim (fun h0 => ?_) (fun h0 => by rw [if_neg (by simpa using h0), decide_eq_false (fun e => h0 (congrArg Key.kind e))])
  rw [if_pos (by simpa using h0)]
  rw [eqAs_cons ⟨by decide, by simp [AV.sizes, AV.size], by simp [AV.sizes, AV.size], by kernel_rfl, by simp [AV.size]; kernel_rfl, by kernel_rfl, by simp [AV.size]; kernel_rfl⟩ eq_int3]
  refine (Classical.em (a.who = b.who)).elim (fun h1 => ?_) (fun h1 => by rw [if_neg (by simpa using h1), decide_eq_false (fun e => h1 (congrArg Key.who e))])
  rw [if_pos (by simpa using h1)]
  rw [eqAs_cons ⟨by decide, by simp [AV.sizes, AV.size], by simp [AV.sizes, AV.size], by kernel_rfl, by simp [AV.size]; kernel_rfl, by kernel_rfl, by simp [AV.size]; kernel_rfl⟩ eq_int3]
  refine (Classical.em (a.number = b.number)).elim (fun h2 => ?_) (fun h2 => by rw [if_neg (by simpa using h2), decide_eq_false (fun e => h2 (congrArg Key.number e))])
  rw [if_pos (by simpa using h2)]
  have e : a = b := by cases a; cases b; simp at h0 h1 h2 ⊢; exact ⟨h0, h1, h2⟩
  rw [decide_eq_true e]
  simp [eqAs]
theorem eq_con {a b : Con} : eqA Try.prog 40 76 (.agg (conPs a)) (.agg (conPs b)) = some (decide (a = b)) := by
  have hs : Try.prog.stoodInHeld 76 = false := by kernel_rfl
  simp only [eqA, Try.underlying76, hs, if_true]
  unfold conPs
  rw [eqAs_cons ⟨by decide, by simp [AV.sizes, AV.size], by simp [AV.sizes, AV.size], by kernel_rfl, by simp [AV.size, sizes_key]; kernel_rfl, by kernel_rfl, by simp [AV.size, sizes_key]; kernel_rfl⟩ eq_key]
  refine (Classical.em (a.k = b.k)).elim (fun h0 => ?_) (fun h0 => by rw [if_neg (by simpa using h0), decide_eq_false (fun e => h0 (congrArg Con.k e))])
  rw [if_pos (by simpa using h0)]
  rw [eqAs_cons ⟨by decide, by simp [AV.sizes, AV.size, sizes_key], by simp [AV.sizes, AV.size, sizes_key], by kernel_rfl, by simp [AV.size]; kernel_rfl, by kernel_rfl, by simp [AV.size]; kernel_rfl⟩ eq_str9]
  refine (Classical.em (a.b = b.b)).elim (fun h1 => ?_) (fun h1 => by rw [if_neg (by simpa using h1), decide_eq_false (fun e => h1 (congrArg Con.b e))])
  rw [if_pos (by simpa using h1)]
  have e : a = b := by cases a; cases b; simp at h0 h1 ⊢; exact ⟨h0, h1⟩
  rw [decide_eq_true e]
  simp [eqAs]
end Go.Aff.L10

/- Layer 32: maps that count. -/
namespace Go.Aff.L10
open Go.Proofs Go.Aff Go.Aff.L01 Classical
set_option linter.unusedVariables false
set_option linter.unusedSimpArgs false
set_option maxRecDepth 20000
theorem key_ok {n : Nat} {a : Key} : keyOk Try.prog (n + 10) 74 (.agg (keyPs a)) = true := by
  simp only [keyOk, Try.underlying74, keyPs, keyOks, Try.underlying3]
  kernel_rfl
theorem con_ok {a : Con} : keyOk Try.prog 40 76 (.agg (conPs a)) = true := by
  simp only [keyOk, Try.underlying76, conPs, Try.underlying74, keyPs, keyOks, Try.underlying3, Try.underlying9]
  kernel_rfl
section
variable {κ : Type} {kf : κ → AV} {kt : TypeId}
/-- An entry: its birth, its key, how often. -/
def entV (kf : κ → AV) (x : Nat × κ × Int) : Nat × AV × AV := (x.1, kf x.2.1, .int .i64 x.2.2)
noncomputable def fnd (a : κ) (L : List (Nat × κ × Int)) : Option Nat := L.findIdx? fun x => decide (a = x.2.1)
theorem findE_eq (hk : ∀ a, keyOk Try.prog 40 kt (kf a) = true) (he : ∀ a b, eqA Try.prog 40 kt (kf a) (kf b) = some (decide (a = b))) {a : κ} : ∀ {L : List (Nat × κ × Int)}, findE Try.prog kt (kf a) (L.map (entV kf)) = some (fnd a L)
  | [] => rfl
  | x :: L => by
    have ih := findE_eq hk he (a := a) (L := L)
    simp only [List.map_cons, findE, entV, eqK, hk, if_true, he]
    unfold fnd at ih ⊢
    rw [List.findIdx?_cons]
    by_cases e : a = x.2.1
    · simp [e]
    · simp only [decide_eq_false e]
      change (findE Try.prog kt (kf a) (L.map (entV kf))).map _ = _
      rw [ih]; simp
/-- How often a key came. -/
noncomputable def cntK (a : κ) (L : List (Nat × κ × Int)) : Int := match fnd a L with
  | some j => match L[j]? with
    | some x => x.2.2
    | none => 0
  | none => 0
theorem fnd_some {a : κ} {L : List (Nat × κ × Int)} {j : Nat} (h : fnd a L = some j) : ∃ x, L[j]? = some x ∧ x.2.1 = a := by
  unfold fnd at h
  obtain ⟨hj, h1, _⟩ := List.findIdx?_eq_some_iff_getElem.1 h
  exact ⟨L[j], List.getElem?_eq_getElem hj, (of_decide_eq_true h1).symm⟩
/-- The map when a key's entry is there. -/
noncomputable def insK (a : κ) (L : List (Nat × κ × Int)) (ck : Nat) : List (Nat × κ × Int) := match fnd a L with
  | some _ => L
  | none => L ++ [(ck, a, 0)]
noncomputable def ckK (a : κ) (L : List (Nat × κ × Int)) (ck : Nat) : Nat := match fnd a L with
  | some _ => ck
  | none => ck + 1
theorem fnd_ins {a : κ} {L : List (Nat × κ × Int)} {ck : Nat} : ∃ j, fnd a (insK a L ck) = some j := by
  unfold insK
  cases h : fnd a L with
  | some j => exact ⟨j, h⟩
  | none =>
    unfold fnd at h ⊢
    exact ⟨L.length, by simp [List.findIdx?_append, h]⟩
theorem cnt_ins {a b : κ} {L : List (Nat × κ × Int)} {ck : Nat} : cntK b (insK a L ck) = cntK b L := by
  unfold insK
  cases h : fnd a L with
  | some j => rfl
  | none =>
    unfold cntK
    cases hb : fnd b L with
    | some j =>
      have : fnd b (L ++ [(ck, a, 0)]) = some j := by unfold fnd at hb ⊢; rw [List.findIdx?_append, hb]; rfl
      rw [this]
      obtain ⟨x, hx, _⟩ := fnd_some hb
      have hj := (List.getElem?_eq_some_iff.1 hx).1
      simp only []
      rw [List.getElem?_append_left hj]
    | none =>
      by_cases e : b = a
      · have : fnd b (L ++ [(ck, a, 0)]) = some L.length := by unfold fnd at hb ⊢; rw [List.findIdx?_append, hb]; simp [e]
        rw [this]; simp
      · have : fnd b (L ++ [(ck, a, 0)]) = none := by unfold fnd at hb ⊢; rw [List.findIdx?_append, hb]; simp [e]
        rw [this]
end
end Go.Aff.L10

/- Layer 32: maps that count: the operations. -/
namespace Go.Aff.L10
open Go.Proofs Go.Aff Go.Aff.L01 Classical
set_option linter.unusedVariables false
set_option linter.unusedSimpArgs false
set_option maxRecDepth 20000
section
variable {κ : Type} {kf : κ → AV} {kt mt : TypeId} {σ : AST} {mi ck : Nat} {L : List (Nat × κ × Int)} {a : κ}
theorem modify_id {α : Type} {l : List α} {j : Nat} {f : α → α} (h : ∀ x, l[j]? = some x → f x = x) : l.modify j f = l := by
  apply List.ext_getElem?
  intro i
  rw [List.getElem?_modify]
  by_cases e : j = i
  · subst e
    cases hx : l[j]? with
    | none => simp
    | some x => simp [h x hx]
  · simp [e]
theorem modify_map {α β : Type} {l : List α} {j : Nat} {f : α → β} {g : α → α} {g' : β → β} (h : ∀ x, g' (f x) = f (g x)) : (l.map f).modify j g' = (l.modify j g).map f := by
  apply List.ext_getElem?
  intro i
  rw [List.getElem?_modify, List.getElem?_map, List.getElem?_map, List.getElem?_modify]
  cases l[i]? with
  | none => simp
  | some x =>
    by_cases e : j = i
    · simp [e, h]
    · simp [e]
theorem lookupK (hmt : Try.prog.underlying mt = some (.map kt 3)) (hk : ∀ a, keyOk Try.prog 40 kt (kf a) = true) (he : ∀ a b, eqA Try.prog 40 kt (kf a) (kf b) = some (decide (a = b)))
    (o : σ.objs[mi]? = some (.map (L.map (entV kf)) ck)) {K : AV → Prop} (hK : K (.int .i64 (cntK a L))) : lookupW Try.prog σ mt (.mp (some mi)) (kf a) false K := by
  refine ⟨kt, 3, hmt, hk a, ?_⟩
  simp only [o]
  refine ⟨fnd a L, findE_eq hk he, ?_⟩
  unfold cntK at hK
  cases h : fnd a L with
  | none =>
    rw [h] at hK
    exact ⟨by rw [show zeroA Try.prog 12 3 = .int .i64 0 from zero3]; exact ⟨_, _, rfl, rfl, rfl, rfl, rfl⟩, by rw [show zeroA Try.prog 12 3 = .int .i64 0 from zero3]; exact hK⟩
  | some j =>
    rw [h] at hK
    intro e hj
    rw [List.getElem?_map, Option.map_eq_some_iff] at hj
    obtain ⟨x, hx, rfl⟩ := hj
    simp only [hx] at hK
    exact hK
theorem entryK (hmt : Try.prog.underlying mt = some (.map kt 3)) (hk : ∀ a, keyOk Try.prog 40 kt (kf a) = true) (he : ∀ a b, eqA Try.prog 40 kt (kf a) (kf b) = some (decide (a = b)))
    (o : σ.objs[mi]? = some (.map (L.map (entV kf)) ck)) {K : AV → AST → Prop}
    (hK : ∀ j x, fnd a (insK a L ck) = some j → (insK a L ck)[j]? = some x → K (.tuple [.int .i64 (cntK a L), .int .i64 x.1]) (σ.set mi (.map ((insK a L ck).map (entV kf)) (ckK a L ck)))) : mapEntryW Try.prog σ mt (.mp (some mi)) (kf a) K := by
  refine ⟨kt, 3, hmt, hk a, ?_⟩
  simp only [o]
  refine ⟨fnd a L, findE_eq hk he, ?_⟩
  unfold insK cntK ckK at hK
  cases h : fnd a L with
  | none =>
    simp only [h] at hK
    have hz : zeroA Try.prog 12 3 = .int .i64 0 := zero3
    have hf : fnd a (L ++ [(ck, a, 0)]) = some L.length := by unfold fnd at h ⊢; rw [List.findIdx?_append, h]; simp
    have := hK L.length (ck, a, 0) hf (by simp)
    simp only [hz]
    exact ⟨⟨_, _, rfl, rfl, rfl, rfl, rfl⟩, by simpa [entV] using this⟩
  | some j =>
    simp only [h] at hK
    intro e hj
    rw [List.getElem?_map, Option.map_eq_some_iff] at hj
    obtain ⟨x, hx, rfl⟩ := hj
    have hm : (L.map (entV kf)).modify j (fun e => (e.1, kf a, e.2.2)) = L.map (entV kf) := modify_id fun y hy => by
      rw [List.getElem?_map, hx] at hy
      obtain ⟨z, hz, hza⟩ := fnd_some h
      rw [hx] at hz
      cases hz
      cases hy
      simp [entV, hza]
    have := hK j x rfl hx
    simp only [hx] at this
    simp only [hm]
    exact this
/-- The map with a key's number. -/
noncomputable def setK (a : κ) (n : Int) (L : List (Nat × κ × Int)) : List (Nat × κ × Int) := match fnd a L with
  | some j => L.modify j fun e => (e.1, e.2.1, n)
  | none => L
theorem storeK (o : σ.objs[mi]? = some (.map (L.map (entV kf)) ck)) {j : Nat} {x : Nat × κ × Int} (h : fnd a L = some j) (hx : L[j]? = some x) {q : IntKind} {n : Int} {K : AST → Prop}
    (hK : K (σ.set mi (.map ((setK a n L).map (entV kf)) ck))) : entryStoreW σ (.mp (some mi)) (.int q x.1) (.int .i64 n) K := by
  refine ⟨rfl, ?_⟩
  simp only [o]
  refine ⟨j, entV kf x, by rw [List.getElem?_map, hx]; rfl, rfl, ?_⟩
  have hm : (L.map (entV kf)).modify j (fun e => (e.1, e.2.1, AV.int .i64 n)) = (L.modify j fun e => (e.1, e.2.1, n)).map (entV kf) := modify_map (f := entV kf) (g := fun e => (e.1, e.2.1, n)) (fun y => rfl)
  rw [hm]
  unfold setK at hK
  rw [h] at hK
  exact hK
theorem fnd_set {b : κ} {n : Int} : fnd b (setK a n L) = fnd b L := by
  unfold setK
  cases h : fnd a L with
  | none => rfl
  | some j =>
    have e : ∀ l : List (Nat × κ × Int), fnd b l = (l.map fun x => x.2.1).findIdx? fun y => decide (b = y) := fun l => by unfold fnd; rw [List.findIdx?_map]; rfl
    have e2 : (L.modify j fun e => (e.1, e.2.1, n)).map (fun x => x.2.1) = L.map fun x => x.2.1 := by
      have h1 := modify_map (l := L) (j := j) (f := fun x : Nat × κ × Int => x.2.1) (g := fun e => (e.1, e.2.1, n)) (g' := id) (fun y => rfl)
      rw [← h1]; exact modify_id fun _ _ => rfl
    simp only [e, e2]
theorem cnt_set {b : κ} {n : Int} {j : Nat} (h : fnd a L = some j) : cntK b (setK a n L) = if b = a then n else cntK b L := by
  unfold cntK
  rw [fnd_set]
  obtain ⟨x, hx, hxa⟩ := fnd_some h
  by_cases e : b = a
  · subst e
    rw [if_pos rfl, h]
    simp only [setK, h, List.getElem?_modify, hx]
    simp
  · rw [if_neg e]
    cases hb : fnd b L with
    | none => rfl
    | some i =>
      obtain ⟨y, hy, hyb⟩ := fnd_some hb
      have hne : j ≠ i := fun e2 => by subst e2; rw [hx] at hy; cases hy; exact e (hyb.symm.trans hxa)
      simp only [setK, h, List.getElem?_modify, hy]
      simp [hne]
end
end Go.Aff.L10

