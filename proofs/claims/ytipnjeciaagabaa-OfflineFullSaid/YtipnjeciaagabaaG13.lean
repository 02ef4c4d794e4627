import Derived.Test.YtipnjeciaagabaaG12

set_option linter.unusedSimpArgs false
set_option linter.unusedVariables false

/- Regions that draw their order: operations that leave something behind, in whatever order they come: a tree of orders. -/
namespace Go.Aff
set_option linter.unusedVariables false
set_option linter.unusedSimpArgs false

variable {g g' : G} {w w' : World} {σ σ' : AST} {P : Program} {ops : Array Oper}

/-- Orders: one operation and the rest; or two ways to go on: the one that begins with this operation, the other one. -/
inductive Tr where
  | nil
  | op (i : Nat) (r : Tr)
  | fork (e : Nat) (a b : Tr)

def Tr.mems : Tr → List Nat
  | .nil => []
  | .op i r => i :: r.mems
  | .fork _ a b => a.mems ++ b.mems
def Tr.len : Tr → Nat
  | .nil => 0
  | .op _ r => r.len + 1
  | .fork _ a b => max a.len b.len
def Tr.lin : List Nat → Tr
  | [] => .nil
  | i :: r => .op i (Tr.lin r)

def awpT (P : Program) (ops : Array Oper) : Tr → List (Nat × Env × AV) → Env → AST → (Env → AST → Prop) → Prop
  | .nil, _, τ, σ, K => K τ σ
  | .op i rest, past, τ, σ, K => match ops[i]? with
    | none => False
    | some o => if effO P o = true then stepW P ops o τ σ fun v σ' => lateW P ops i past σ' ∧ ((∀ t, lenOk ((τ.putO o.dst v) t)) → awpT P ops rest past (τ.putO o.dst v) σ' K)
      else stepW P ops o τ σ fun v σ' => (∀ t, lenOk ((τ.putO o.dst v) t)) → awpT P ops rest ((i, τ, v) :: past) (τ.putO o.dst v) σ' K
  | .fork _ a b, past, τ, σ, K => awpT P ops a past τ σ K ∧ awpT P ops b past τ σ K

theorem awpT_lin : ∀ {l : List Nat} {past : List (Nat × Env × AV)} {τ : Env} {σ : AST} {K : Env → AST → Prop}, awpD P ops l past τ σ K → awpT P ops (Tr.lin l) past τ σ K
  | [], past, τ, σ, K, h => h
  | i :: r, past, τ, σ, K, h => by
    simp only [Tr.lin, awpT, awpD] at h ⊢
    split
    · rename_i ho; rw [ho] at h; exact h
    · rename_i o ho
      rw [ho] at h
      simp only at h
      split
      · rename_i he; rw [if_pos he] at h
        exact stepW_mono (fun v σ' hh => ⟨hh.1, fun hv => awpT_lin (hh.2 hv)⟩) h
      · rename_i he; rw [if_neg he] at h
        exact stepW_mono (fun v σ' hh hv => awpT_lin (hh hv)) h

theorem awpT_like : ∀ (T : Tr) {E1 E2 : List (Nat × Env × AV)} {τ : Env} {σ : AST} {K : Env → AST → Prop}, likePast ops E1 E2 → awpT P ops T E1 τ σ K → awpT P ops T E2 τ σ K
  | .nil, _, _, _, _, _, _, h => h
  | .op i R, E1, E2, τ, σ, K, hE, h => by
    simp only [awpT] at h ⊢
    split at h
    · exact h.elim
    · split at h
      · rename_i he
        rw [if_pos he]
        exact stepW_mono (fun v σ' hh => ⟨lateW_like hE hh.1, fun hv => awpT_like R hE (hh.2 hv)⟩) h
      · rename_i he
        rw [if_neg he]
        exact stepW_mono (fun v σ' hh hv => awpT_like R (likePast_cons hE _) (hh hv)) h
  | .fork _ a b, E1, E2, τ, σ, K, hE, h => ⟨awpT_like a hE h.1, awpT_like b hE h.2⟩

/-- Is it one that may leave something behind? -/
def effI (P : Program) (ops : Array Oper) (i : Nat) : Bool := match ops[i]? with
  | some o => effO P o
  | none => true
def apartI (ops : Array Oper) (x i : Nat) : Bool := match ops[x]?, ops[i]? with
  | some o, some q => o.apart ops q
  | _, _ => false

/-- The tree when this operation comes next. -/
def Tr.front (P : Program) (ops : Array Oper) (i : Nat) : Tr → Option Tr
  | .nil => none
  | .op x r => if x = i then some r else if effI P ops x = false ∧ apartI ops x i = true then (r.front P ops i).map (.op x) else none
  | .fork e a b => if effI P ops i = true then (if i = e then a.front P ops i else b.front P ops i) else none

theorem awpT_front {n : Nat} {i : Nat} {oi : Oper} (hi : ops[i]? = some oi) (hdst : ∀ (j : Nat) o, ops[j]? = some o → ∀ k, o.dst = some k → k < n) {K : Env → AST → Prop} :
    ∀ (T T' : Tr) (past : List (Nat × Env × AV)) (τ : Env) (σ : AST), T.front P ops i = some T' → (∀ x ∈ T.mems, ahead (anc ops) i x = false) → Good n τ σ → awpT P ops T past τ σ K →
      stepW P ops oi τ σ fun v σ' => (effO P oi = true → lateW P ops i past σ') ∧ (effO P oi = false → σ' = σ) ∧ ((∀ t, lenOk ((τ.putO oi.dst v) t)) → awpT P ops T' past (τ.putO oi.dst v) σ' K)
  | .nil, T', past, τ, σ, hf, _, hG, h => by simp [Tr.front] at hf
  | .fork e a b, T', past, τ, σ, hf, hA, hG, h => by
    simp only [Tr.front] at hf
    split at hf
    · split at hf
      · exact awpT_front hi hdst a T' past τ σ hf (fun x hx => hA x (by simp [Tr.mems, hx])) hG h.1
      · exact awpT_front hi hdst b T' past τ σ hf (fun x hx => hA x (by simp [Tr.mems, hx])) hG h.2
    · cases hf
  | .op a r, T', past, τ, σ, hf, hA, hG, h => by
    simp only [Tr.front] at hf
    split at hf
    · rename_i hai
      subst hai
      cases hf
      simp only [awpT, hi] at h
      cases he : effO P oi with
      | true =>
        rw [he] at h
        exact stepW_mono (fun v σ' hh => ⟨fun _ => hh.1, (fun q => by cases q), hh.2⟩) h
      | false =>
        rw [he] at h
        simp only [Bool.false_eq_true, if_false] at h
        obtain ⟨v, hv, hk⟩ := stepW_det hG.len he h
        exact hk _ ⟨(fun q => by cases q), fun _ => rfl, fun hlv => awpT_like r (likePast_tail past _) (hv hlv)⟩
    · split at hf
      · rename_i hne hpa
        obtain ⟨hea', hap'⟩ := hpa
        obtain ⟨r', hr', rfl⟩ := Option.map_eq_some_iff.1 hf
        have hah := hA a (by simp [Tr.mems])
        obtain ⟨oa, hoa⟩ : ∃ oa, ops[a]? = some oa := by
          cases ho : ops[a]? with
          | none => simp [effI, ho] at hea'
          | some o => exact ⟨o, rfl⟩
        have hea : effO P oa = false := by simpa [effI, hoa] using hea'
        have hap : oa.apart ops oi = true := by simpa [apartI, hoa, hi] using hap'
        obtain ⟨ap1, ap2, ap3⟩ := Oper.apart_spec hap
        simp only [awpT, hoa, hea] at h
        simp only [Bool.false_eq_true, if_false] at h
        obtain ⟨va, hva, hka⟩ := stepW_det hG.len hea h
        have heq : stepW P ops oa τ σ fun v' σ'' => v' = va ∧ σ'' = σ := hka _ ⟨rfl, rfl⟩
        have hG' : Good n (τ.putO oa.dst va) σ := hG.step (hdst a oa hoa) heq
        have ih := awpT_front hi hdst r r' ((a, τ, va) :: past) (τ.putO oa.dst va) σ hr' (fun x hx => hA x (by simp [Tr.mems, hx])) hG' (hva hG'.len)
        have hcong : ∀ K', stepW P ops oi (τ.putO oa.dst va) σ K' = stepW P ops oi τ σ K' := fun K' => stepW_congr fun t ht => putO_looks fun k hk e => ap1 k hk (e ▸ ht)
        rw [hcong] at ih
        refine stepW_mono (fun v σ' hh => ?_) ih
        obtain ⟨hlate, hpure, hrest⟩ := hh
        refine ⟨fun q x hx => hlate q x (List.mem_cons_of_mem _ hx), hpure, fun hlv => ?_⟩
        have hval : stepW P ops oa τ σ' fun v' σ'' => v' = va ∧ σ'' = σ' := by
          cases he : effO P oi with
          | true => exact hlate he (a, τ, va) (by simp) hah oa hoa
          | false => rw [hpure he]; exact heq
        have hcong2 : stepW P ops oa τ σ' (fun v' σ'' => v' = va ∧ σ'' = σ') = stepW P ops oa (τ.putO oi.dst v) σ' (fun v' σ'' => v' = va ∧ σ'' = σ') :=
          stepW_congr fun t ht => (putO_looks fun k hk e => ap3 k hk (e ▸ ht)).symm
        rw [hcong2] at hval
        simp only [awpT, hoa, hea]
        simp only [Bool.false_eq_true, if_false]
        refine stepW_mono (fun v' σ'' hh _ => ?_) hval
        obtain ⟨rfl, rfl⟩ := hh
        rename_i hlv2
        rw [putO_comm _ _ fun d hd e => ap2 d e hd]
        rw [putO_comm _ _ fun d hd e => ap2 d e hd] at hlv2
        replace hrest := hrest hlv2
        refine awpT_like _ ?_ hrest
        intro x2 h2
        rcases List.mem_cons.1 h2 with rfl | h2
        · refine ⟨(a, τ, v'), by simp, rfl, rfl, fun o ho t ht => ?_⟩
          rw [hoa] at ho; cases ho
          exact (putO_looks fun k hk e => ap3 k hk (e ▸ ht)).symm
        · exact ⟨x2, List.mem_cons_of_mem _ h2, rfl, rfl, fun _ _ _ _ => rfl⟩
      · cases hf

/-! ### Which trees serve -/
def Tr.starts (P : Program) (ops : Array Oper) : Tr → Bool
  | .nil => true
  | .op i _ => effI P ops i
  | .fork _ a b => a.starts P ops && b.starts P ops
/-- x stands ahead of y on a path. -/
def pairT (P : Program) (ops : Array Oper) (b : List Nat) (x y : Nat) : Bool :=
  !ahead b x y && (ahead b y x || (apartI ops x y && !effI P ops x) || (effI P ops x && effI P ops y))
def Tr.ok (P : Program) (ops : Array Oper) (b : List Nat) : Tr → Bool
  | .nil => true
  | .op x r => !r.mems.contains x && r.mems.all (fun y => pairT P ops b x y || (effI P ops x && !ahead b x y && r.mems.any fun z => ahead b y z)) && r.ok P ops b
  | .fork _ u v => u.mems.all (fun x => v.mems.contains x) && v.mems.all (fun x => u.mems.contains x) && u.starts P ops && v.starts P ops && u.ok P ops b && v.ok P ops b
/-- As front, where what stands ahead of it may still be there. -/
def Tr.frontC (P : Program) (ops : Array Oper) (i : Nat) : Tr → Option Tr
  | .nil => none
  | .op x r => if x = i then some r else if effI P ops x = false ∧ (apartI ops x i || ahead (anc ops) i x) = true then (r.frontC P ops i).map (.op x) else none
  | .fork e a b => if effI P ops i = true then (if i = e then a.frontC P ops i else b.frontC P ops i) else none
/-- Whichever of these comes first: there is a way. -/
def Tr.cov (P : Program) (ops : Array Oper) (b : List Nat) : Nat → Tr → List Nat → Bool
  | 0, _, E => E.isEmpty
  | n + 1, T, E => E.all fun i => E.any (fun x => ahead b i x) || match T.frontC P ops i with
    | none => false
    | some T' => T'.cov P ops b n (E.filter fun x => x != i)
def trOk (P : Program) (ops : Array Oper) (T : Tr) : Bool :=
  T.mems.all (· < ops.size) && T.ok P ops (anc ops) && edgesOk ops && (List.range ops.size).all (fun i => T.mems.contains i && !ahead (anc ops) i i) && decide (T.len ≤ ops.size) &&
    T.cov P ops (anc ops) ops.size ((List.range ops.size).filter fun i => effI P ops i)

theorem front_mems {i : Nat} : ∀ {T T' : Tr}, T.ok P ops (anc ops) = true → T.front P ops i = some T' → ∀ j, j ∈ T'.mems ↔ j ∈ T.mems ∧ j ≠ i
  | .nil, T', _, h, j => by simp [Tr.front] at h
  | .op x r, T', hok, h, j => by
    simp only [Tr.ok, Bool.and_eq_true, Bool.not_eq_true', List.contains_eq_mem, decide_eq_false_iff_not] at hok
    obtain ⟨⟨hnd, _⟩, hok⟩ := hok
    simp only [Tr.front] at h
    split at h
    · rename_i hx
      subst hx
      cases h
      simp only [Tr.mems, List.mem_cons]
      constructor
      · intro hj; exact ⟨.inr hj, fun e => hnd (e ▸ hj)⟩
      · rintro ⟨h1 | h1, h2⟩
        · exact absurd h1 h2
        · exact h1
    · rename_i hx
      split at h
      · obtain ⟨r', hr', rfl⟩ := Option.map_eq_some_iff.1 h
        have ih := front_mems hok hr' j
        simp only [Tr.mems, List.mem_cons, ih]
        constructor
        · rintro (rfl | ⟨h1, h2⟩)
          · exact ⟨.inl rfl, hx⟩
          · exact ⟨.inr h1, h2⟩
        · rintro ⟨rfl | h1, h2⟩
          · exact .inl rfl
          · exact .inr ⟨h1, h2⟩
      · cases h
  | .fork e a b, T', hok, h, j => by
    simp only [Tr.ok, Bool.and_eq_true, List.all_eq_true, List.contains_eq_mem, decide_eq_true_eq] at hok
    obtain ⟨⟨⟨⟨⟨s1, s2⟩, _⟩, _⟩, ha⟩, hb⟩ := hok
    simp only [Tr.front] at h
    simp only [Tr.mems, List.mem_append]
    split at h
    · split at h
      · rw [front_mems ha h j]
        exact ⟨fun h => ⟨.inl h.1, h.2⟩, fun h => ⟨h.1.elim id (s2 j), h.2⟩⟩
      · rw [front_mems hb h j]
        exact ⟨fun h => ⟨.inr h.1, h.2⟩, fun h => ⟨h.1.elim (s1 j) id, h.2⟩⟩
    · cases h
theorem front_len {i : Nat} : ∀ {T T' : Tr}, T.front P ops i = some T' → T'.len + 1 ≤ T.len
  | .nil, T', h => by simp [Tr.front] at h
  | .op x r, T', h => by
    simp only [Tr.front] at h
    split at h
    · cases h; simp [Tr.len]
    · split at h
      · obtain ⟨r', hr', rfl⟩ := Option.map_eq_some_iff.1 h
        have := front_len hr'
        simp only [Tr.len]; omega
      · cases h
  | .fork e a b, T', h => by
    simp only [Tr.front] at h
    split at h
    · split at h
      · have := front_len h; simp only [Tr.len]; omega
      · have := front_len h; simp only [Tr.len]; omega
    · cases h
theorem front_ok {i : Nat} : ∀ {T T' : Tr}, T.ok P ops (anc ops) = true → T.front P ops i = some T' → T'.ok P ops (anc ops) = true
  | .nil, T', _, h => by simp [Tr.front] at h
  | .op x r, T', hok, h => by
    have hok0 := hok
    simp only [Tr.ok, Bool.and_eq_true, Bool.not_eq_true', List.contains_eq_mem, decide_eq_false_iff_not, List.all_eq_true] at hok
    obtain ⟨⟨hnd, hall⟩, hok⟩ := hok
    simp only [Tr.front] at h
    split at h
    · cases h; exact hok
    · split at h
      · obtain ⟨r', hr', rfl⟩ := Option.map_eq_some_iff.1 h
        have hm := front_mems hok hr'
        simp only [Tr.ok, Bool.and_eq_true, Bool.not_eq_true', List.contains_eq_mem, decide_eq_false_iff_not, List.all_eq_true]
        rename_i hpx
        refine ⟨⟨fun hx => hnd ((hm x).1 hx).1, fun y hy => ?_⟩, front_ok hok hr'⟩
        have h1 := hall y ((hm y).1 hy).1
        rw [hpx.1] at h1 ⊢
        simpa using h1
      · cases h
  | .fork e a b, T', hok, h => by
    simp only [Tr.ok, Bool.and_eq_true] at hok
    obtain ⟨⟨_, ha⟩, hb⟩ := hok
    simp only [Tr.front] at h
    split at h
    · split at h
      · exact front_ok ha h
      · exact front_ok hb h
    · cases h
theorem front_pure {i : Nat} (hi : effI P ops i = false) : ∀ {T : Tr}, T.ok P ops (anc ops) = true → i ∈ T.mems → (∀ x ∈ T.mems, ahead (anc ops) i x = false) → ∃ T', T.front P ops i = some T'
  | .nil, _, h, _ => by simp [Tr.mems] at h
  | .op x r, hok, hm, hah => by
    simp only [Tr.ok, Bool.and_eq_true, Bool.not_eq_true', List.contains_eq_mem, decide_eq_false_iff_not, List.all_eq_true] at hok
    obtain ⟨⟨hnd, hall⟩, hok⟩ := hok
    simp only [Tr.front]
    by_cases hx : x = i
    · exact ⟨r, by rw [if_pos hx]⟩
    · have hmr : i ∈ r.mems := by simp only [Tr.mems, List.mem_cons] at hm; exact hm.resolve_left (fun e => hx e.symm)
      obtain ⟨r', hr'⟩ := front_pure hi hok hmr (fun y hy => hah y (by simp [Tr.mems, hy]))
      have hp := hall i hmr
      have hno : (r.mems.any fun z => ahead (anc ops) i z) = false := List.any_eq_false.2 fun z hz => by simp [hah z (by simp [Tr.mems, hz])]
      simp only [hno, pairT, hah x (by simp [Tr.mems]), hi, Bool.and_false, Bool.or_false, Bool.false_or, Bool.and_eq_true, Bool.not_eq_true'] at hp
      rw [if_neg hx, if_pos ⟨hp.2.2, hp.2.1⟩, hr']
      exact ⟨_, rfl⟩
  | .fork e a b, hok, hm, hah => by
    exfalso
    simp only [Tr.ok, Bool.and_eq_true, List.all_eq_true, List.contains_eq_mem, decide_eq_true_eq] at hok
    obtain ⟨⟨⟨⟨⟨s1, s2⟩, st⟩, _⟩, ha⟩, hb⟩ := hok
    have hma : i ∈ a.mems := by simp only [Tr.mems, List.mem_append] at hm; exact hm.elim id (s2 i)
    have key : ∀ (T : Tr), T.ok P ops (anc ops) = true → T.starts P ops = true → i ∈ T.mems → (∀ x ∈ T.mems, ahead (anc ops) i x = false) → False := by
      intro T
      induction T with
      | nil => intro _ _ h _; simp [Tr.mems] at h
      | op x r ih =>
        intro hok hst hm hah
        simp only [Tr.ok, Bool.and_eq_true, Bool.not_eq_true', List.all_eq_true] at hok
        simp only [Tr.starts] at hst
        simp only [Tr.mems, List.mem_cons] at hm
        rcases hm with rfl | hm
        · rw [hst] at hi; cases hi
        · have hp := hok.1.2 i hm
          have hno : (r.mems.any fun z => ahead (anc ops) i z) = false := List.any_eq_false.2 fun z hz => by simp [hah z (by simp [Tr.mems, hz])]
          rw [hno] at hp
          simp [pairT, hah x (by simp [Tr.mems]), hi, hst] at hp
      | fork e u v ih1 ih2 =>
        intro hok hst hm hah
        simp only [Tr.ok, Bool.and_eq_true, List.all_eq_true, List.contains_eq_mem, decide_eq_true_eq] at hok
        simp only [Tr.starts, Bool.and_eq_true] at hst
        refine ih1 hok.1.2 hst.1 ?_ (fun x hx => hah x (by simp [Tr.mems, hx]))
        simp only [Tr.mems, List.mem_append] at hm
        exact hm.elim id (hok.1.1.1.1.2 i)
    exact key a ha st hma (fun x hx => hah x (by simp [Tr.mems, hx]))
theorem frontC_front {i : Nat} : ∀ {T T' : Tr}, (∀ x ∈ T.mems, ahead (anc ops) i x = false) → T.frontC P ops i = some T' → T.front P ops i = some T'
  | .nil, T', _, h => by simp [Tr.frontC] at h
  | .op x r, T', hah, h => by
    simp only [Tr.frontC, hah x (by simp [Tr.mems]), Bool.or_false] at h
    simp only [Tr.front]
    split at h
    · rename_i hx; rw [if_pos hx]; exact h
    · rename_i hx
      rw [if_neg hx]
      split at h
      · rename_i hp
        obtain ⟨r', hr', rfl⟩ := Option.map_eq_some_iff.1 h
        rw [if_pos hp, frontC_front (fun y hy => hah y (by simp [Tr.mems, hy])) hr']; rfl
      · cases h
  | .fork e a b, T', hah, h => by
    simp only [Tr.frontC] at h
    simp only [Tr.front]
    split at h
    · rename_i he
      rw [if_pos he]
      split at h
      · rename_i hx; rw [if_pos hx]; exact frontC_front (fun y hy => hah y (by simp [Tr.mems, hy])) h
      · rename_i hx; rw [if_neg hx]; exact frontC_front (fun y hy => hah y (by simp [Tr.mems, hy])) h
    · cases h
theorem front_comm {i j : Nat} (hj : effI P ops j = false) (hi : effI P ops i = true) : ∀ {T T1 T' : Tr}, T.front P ops j = some T1 → T.frontC P ops i = some T' → ∃ T1', T1.frontC P ops i = some T1' ∧ T'.front P ops j = some T1'
  | .nil, T1, T', h, _ => by simp [Tr.front] at h
  | .op x r, T1, T', h1, h2 => by
    have hij : i ≠ j := fun e => by rw [e, hj] at hi; cases hi
    simp only [Tr.front] at h1
    simp only [Tr.frontC] at h2
    by_cases hxi : x = i
    · subst hxi
      rw [if_neg hij, if_neg (by simp [hi])] at h1; cases h1
    · rw [if_neg hxi] at h2
      split at h2
      · rename_i hp2
        obtain ⟨r2, hr2, rfl⟩ := Option.map_eq_some_iff.1 h2
        by_cases hxj : x = j
        · subst hxj
          rw [if_pos rfl] at h1; cases h1
          exact ⟨r2, hr2, by simp [Tr.front]⟩
        · rw [if_neg hxj] at h1
          split at h1
          · rename_i hp1
            obtain ⟨r1, hr1, rfl⟩ := Option.map_eq_some_iff.1 h1
            obtain ⟨q, q1, q2⟩ := front_comm hj hi hr1 hr2
            refine ⟨.op x q, ?_, ?_⟩
            · simp only [Tr.frontC]; rw [if_neg hxi, if_pos hp2, q1]; rfl
            · simp only [Tr.front]; rw [if_neg hxj, if_pos hp1, q2]; rfl
          · cases h1
      · cases h2
  | .fork e a b, T1, T', h1, h2 => by
    simp only [Tr.front, hj] at h1
    simp at h1
theorem cov_pure {j : Nat} (hj : effI P ops j = false) : ∀ (n : Nat) {T T1 : Tr} {E : List Nat}, (∀ x ∈ E, effI P ops x = true) → T.front P ops j = some T1 → T.cov P ops (anc ops) n E = true → T1.cov P ops (anc ops) n E = true
  | 0, T, T1, E, _, _, h => h
  | n + 1, T, T1, E, hE, hf, h => by
    simp only [Tr.cov, List.all_eq_true, Bool.or_eq_true] at h ⊢
    intro i hi
    rcases h i hi with h1 | h1
    · exact .inl h1
    · right
      split at h1
      · cases h1
      · rename_i T' hT'
        obtain ⟨q, q1, q2⟩ := front_comm hj (hE i hi) hf hT'
        rw [q1]
        exact cov_pure hj n (fun x hx => hE x (List.mem_filter.1 hx).1) q2 h1
theorem awpT_nil {K : Env → AST → Prop} : ∀ {T : Tr} {past : List (Nat × Env × AV)} {τ : Env} {σ : AST}, T.mems = [] → awpT P ops T past τ σ K → K τ σ
  | .nil, past, τ, σ, _, h => h
  | .op i r, past, τ, σ, hm, _ => by simp [Tr.mems] at hm
  | .fork e a b, past, τ, σ, hm, h => by simp [Tr.mems] at hm; exact awpT_nil hm.1 h.1
theorem first_ready : ∀ {T : Tr}, T.ok P ops (anc ops) = true → T.mems ≠ [] → ∃ r ∈ T.mems, ∀ x ∈ T.mems, x ≠ r → ahead (anc ops) r x = false
  | .nil, _, h => by simp [Tr.mems] at h
  | .op i r, hok, _ => by
    simp only [Tr.ok, Bool.and_eq_true, Bool.not_eq_true', List.all_eq_true] at hok
    refine ⟨i, by simp [Tr.mems], fun x hx hne => ?_⟩
    simp only [Tr.mems, List.mem_cons] at hx
    have := hok.1.2 x (hx.resolve_left hne)
    rcases Bool.or_eq_true_iff.1 this with h | h
    · simp only [pairT, Bool.and_eq_true, Bool.not_eq_true'] at h
      exact h.1
    · simp only [Bool.and_eq_true, Bool.not_eq_true'] at h
      exact h.1.2
  | .fork e a b, hok, hm => by
    simp only [Tr.ok, Bool.and_eq_true, List.all_eq_true, List.contains_eq_mem, decide_eq_true_eq] at hok
    obtain ⟨⟨⟨⟨⟨s1, s2⟩, _⟩, _⟩, ha⟩, hb⟩ := hok
    have hne : a.mems ≠ [] := by
      intro h
      apply hm
      simp only [Tr.mems, h, List.nil_append]
      apply List.eq_nil_iff_forall_not_mem.2
      intro x hx
      have := s2 x hx
      rw [h] at this; simp at this
    obtain ⟨r, hr, hx⟩ := first_ready ha hne
    refine ⟨r, by simp [Tr.mems, hr], fun x hxm hne => hx x ?_ hne⟩
    simp only [Tr.mems, List.mem_append] at hxm
    exact hxm.elim id (s2 x)
theorem anyT_sound {r : Option Nat} {n : Nat} {g0 : G} {w0 : World} {ds : List Deferred} {Q : Exit → Env → AST → Prop} {K : Env → AST → Prop} (hK : ∀ τ σ, K τ σ → Q .normal τ σ) (hdst : ∀ (j : Nat) o, ops[j]? = some o → ∀ k, o.dst = some k → k < n) (hedge : edgesOk ops = true) :
    ∀ (fuel : Nat) (listed : Array Bool) (T : Tr) (E : List Nat) (g : G) (w : World) (a : Act) (τ : Env) (σ : AST), listed.size = ops.size → (∀ i, i ∈ T.mems ↔ i < ops.size ∧ listed.getD i true = false) → T.ok P ops (anc ops) = true → (∀ i, i < ops.size → ahead (anc ops) i i = false) →
      (∀ x, x ∈ E ↔ x ∈ T.mems ∧ effI P ops x = true) → (∃ m, T.cov P ops (anc ops) m E = true) →
      (∀ y, y < ops.size → listed.getD y false = true → ∀ x, ahead (anc ops) y x = true → listed.getD x false = true) → T.len ≤ fuel →
      awpT P ops T [] τ σ K → Ev g0 w0 g w → Inv g σ w → relE g w τ a.tmps → a.tmps.size = n → a.defers = ds → wpAnyIn (FR r) 0 P .any ops (Lift n g0 w0 ds Q) fuel listed a w := by
  intro fuel
  have getD_tf : ∀ {listed : Array Bool} {i : Nat}, i < listed.size → listed.getD i true = listed.getD i false := by
    intro listed i h; simp [Array.getD, h]
  have edges : ∀ {y : Nat} {o : Oper} {e : Edge}, ops[y]? = some o → e ∈ o.after.toList → Region.binds .any e = true → e.on < ops.size := by
    intro y o e ho he hb
    unfold edgesOk at hedge
    rw [Array.all_eq_true] at hedge
    obtain ⟨hy, rfl⟩ := Array.getElem?_eq_some_iff.1 ho
    have h1 := hedge y hy
    rw [Array.all_eq_true] at h1
    obtain ⟨k, hk, rfl⟩ := List.mem_iff_getElem.1 he
    have h2 := h1 k (by simpa using hk)
    simp only [Array.getElem_toList] at hb
    rw [hb] at h2
    simpa using h2
  have ready_spec : ∀ {listed : Array Bool} {i : Nat}, listed.size = ops.size → (i ∈ Region.ready .any ops listed ↔ i < ops.size ∧ listed.getD i true = false ∧ ∀ o, ops[i]? = some o → ∀ e ∈ o.after.toList, Region.binds .any e = true → listed.getD e.on false = true) := by
    intro listed i hsz
    unfold Region.ready
    simp only [List.mem_filter, List.mem_range, Bool.and_eq_true, Bool.not_eq_true']
    constructor
    · rintro ⟨h1, h2, h3⟩
      refine ⟨h1, h2, fun o ho e he hb => ?_⟩
      rw [ho] at h3
      simp only [Option.map_some, Option.getD_some] at h3
      rw [Array.all_eq_true] at h3
      obtain ⟨k, hk, rfl⟩ := List.mem_iff_getElem.1 he
      have := h3 k (by simpa using hk)
      simp only [Array.getElem_toList] at hb ⊢
      rw [hb] at this
      simpa using this
    · rintro ⟨h1, h2, h3⟩
      refine ⟨h1, h2, ?_⟩
      rw [Array.getElem?_eq_getElem h1]
      simp only [Option.map_some, Option.getD_some]
      rw [Array.all_eq_true]
      intro k hk
      have := h3 _ (Array.getElem?_eq_getElem h1) ops[i].after[k] (by simp)
      cases hb : Region.binds .any ops[i].after[k] with
      | false => rfl
      | true => simpa using this hb
  -- what stands ahead of a ready operation has been listed
  have ahead_listed : ∀ {listed : Array Bool}, listed.size = ops.size → (∀ y, y < ops.size → listed.getD y false = true → ∀ x, ahead (anc ops) y x = true → listed.getD x false = true) → ∀ {i x : Nat}, i ∈ Region.ready .any ops listed → ahead (anc ops) i x = true → listed.getD x false = true := by
    intro listed hsz hcl i x hi hx
    obtain ⟨o, ho, e, he, hb, hh⟩ := anc_bit hx
    have h1 := ((ready_spec hsz).1 hi).2.2 o ho e he hb
    rcases hh with rfl | hh
    · exact h1
    · exact hcl e.on (edges ho he hb) h1 x hh
  have none_ready : ∀ {listed : Array Bool} {T : Tr}, listed.size = ops.size → (∀ i, i ∈ T.mems ↔ i < ops.size ∧ listed.getD i true = false) → T.ok P ops (anc ops) = true → (∀ i, i < ops.size → ahead (anc ops) i i = false) → Region.ready .any ops listed = [] → T.mems = [] := by
    intro listed T hsz hR hok hself hr
    by_cases h0 : T.mems = []
    · exact h0
    · exfalso
      obtain ⟨q, hq, hx⟩ := first_ready hok h0
      have hr1 := (hR q).1 hq
      have : q ∈ Region.ready .any ops listed := by
        rw [ready_spec hsz]
        refine ⟨hr1.1, hr1.2, fun o ho e he hb => ?_⟩
        cases hl : listed.getD e.on false with
        | true => rfl
        | false =>
          exfalso
          have hlt := edges ho he hb
          have hmem : e.on ∈ T.mems := (hR _).2 ⟨hlt, by rw [getD_tf (by rw [hsz]; exact hlt)]; exact hl⟩
          have hah : ahead (anc ops) q e.on = true := anc_edge ho he hb
          by_cases heq : e.on = q
          · rw [heq, hself q hr1.1] at hah; cases hah
          · rw [hx _ hmem heq] at hah; cases hah
      rw [hr] at this; simp at this
  have len_mems : ∀ {T : Tr}, T.len = 0 → T.mems = [] := by
    intro T
    induction T with
    | nil => intro _; rfl
    | op i r ih => intro h; simp [Tr.len] at h
    | fork e a b ih1 ih2 =>
      intro h
      simp only [Tr.len] at h
      simp only [Tr.mems, ih1 (by omega), ih2 (by omega), List.append_nil]
  induction fuel with
  | zero =>
    intro listed T E g w a τ σ hsz hR hok hself hE hcov hcl hlen h hEv hI hr hn hd
    have hR0 : T.mems = [] := len_mems (by omega)
    refine ⟨?_, g, τ, σ, hEv, hI, hr, hn, hd, hK _ _ (awpT_nil hR0 h)⟩
    apply List.eq_nil_iff_forall_not_mem.2
    intro i hi
    have h1 := (ready_spec hsz).1 hi
    have := (hR i).2 ⟨h1.1, h1.2.1⟩
    rw [hR0] at this
    simp at this
  | succ fuel ih =>
    intro listed T E g w a τ σ hsz hR hok hself hE hcov hcl hlen h hEv hI hr hn hd
    refine ⟨fun hrd => ?_, fun i hi => ?_⟩
    · have hR0 := none_ready hsz hR hok hself hrd
      exact ⟨g, τ, σ, hEv, hI, hr, hn, hd, hK _ _ (awpT_nil hR0 h)⟩
    · have h1 := (ready_spec hsz).1 hi
      have hmem := (hR i).2 ⟨h1.1, h1.2.1⟩
      obtain ⟨oi, hoi⟩ : ∃ o, ops[i]? = some o := ⟨_, Array.getElem?_eq_getElem h1.1⟩
      have hA : ∀ x ∈ T.mems, ahead (anc ops) i x = false := by
        intro x hx
        have hxR := (hR x).1 hx
        cases hb : ahead (anc ops) i x with
        | false => rfl
        | true =>
          have := ahead_listed hsz hcl hi hb
          rw [getD_tf (by rw [hsz]; exact hxR.1), this] at hxR
          cases hxR.2
      obtain ⟨m, hcov⟩ := hcov
      have hex : ∃ T', T.front P ops i = some T' ∧ ∃ E' m', (∀ x, x ∈ E' ↔ x ∈ T'.mems ∧ effI P ops x = true) ∧ T'.cov P ops (anc ops) m' E' = true := by
        cases he : effI P ops i with
        | false =>
          obtain ⟨T', hT'⟩ := front_pure he hok hmem hA
          refine ⟨T', hT', E, m, fun x => ?_, cov_pure he m (fun x hx => ((hE x).1 hx).2) hT' hcov⟩
          rw [hE x, front_mems hok hT' x]
          constructor
          · rintro ⟨p, q⟩; exact ⟨⟨p, fun e => by rw [e, he] at q; cases q⟩, q⟩
          · rintro ⟨⟨p, _⟩, q⟩; exact ⟨p, q⟩
        | true =>
          have hiE : i ∈ E := (hE i).2 ⟨hmem, he⟩
          cases m with
          | zero =>
            simp only [Tr.cov, List.isEmpty_iff] at hcov
            rw [hcov] at hiE; simp at hiE
          | succ m =>
            simp only [Tr.cov, List.all_eq_true, Bool.or_eq_true] at hcov
            rcases hcov i hiE with hc | hc
            · exfalso
              rw [List.any_eq_true] at hc
              obtain ⟨x, hxE, hx⟩ := hc
              rw [hA x ((hE x).1 hxE).1] at hx; cases hx
            · split at hc
              · cases hc
              · rename_i T' hT'
                have hT' := frontC_front hA hT'
                refine ⟨T', hT', _, m, fun x => ?_, hc⟩
                rw [front_mems hok hT' x, List.mem_filter, hE x]
                simp only [bne_iff_ne, ne_eq]
                constructor
                · rintro ⟨⟨p, q⟩, s⟩; exact ⟨⟨p, s⟩, q⟩
                · rintro ⟨⟨p, s⟩, q⟩; exact ⟨⟨p, q⟩, s⟩
      obtain ⟨T', hT', E', m', hE', hcov'⟩ := hex
      have hfront := awpT_front (n := n) hoi hdst T T' [] τ σ hT' hA ⟨g, w, a, hI, hr, hn⟩ h
      unfold wpOpIn
      rw [hoi]
      simp only
      have next : ∀ (g' : G) (w' : World) (v : AV) (x : Value) (σ' : AST), Ev g w g' w' → Inv g' σ' w' → relV g' w' v x → awpT P ops T' [] (τ.putO oi.dst v) σ' K → wpAnyIn (FR r) 0 P .any ops (Lift n g0 w0 ds Q) fuel (listed.setIfInBounds i true) (a.put oi.dst x) w' := by
        intro g' w' v x σ' hE2 hI' hv hh
        refine ih (listed.setIfInBounds i true) T' E' g' w' _ _ σ' (by simp [hsz]) ?_ (front_ok hok hT') hself hE' ⟨m', hcov'⟩ ?_ (by have := front_len hT'; omega) hh (hEv.trans hE2) hI' (relE_put (relE_mono hE2 hr) (fun k hk => by rw [hn]; exact hdst i oi hoi k hk) hv) (by rw [size_put, hn]) (by rw [put_defers, hd])
        · intro j
          rw [getD_set (by rw [hsz]; exact h1.1), front_mems hok hT' j, hR j]
          by_cases hj : j = i
          · subst hj
            simp
          · rw [if_neg hj]
            exact ⟨fun h => h.1, fun h => ⟨h, hj⟩⟩
        · intro y hy hly z hz
          rw [getD_set (by rw [hsz]; exact h1.1)] at hly ⊢
          by_cases hzi : z = i
          · rw [if_pos hzi]
          · rw [if_neg hzi]
            by_cases hyi : y = i
            · subst hyi; exact ahead_listed hsz hcl hi hz
            · rw [if_neg hyi] at hly; exact hcl y hy hly z hz
      have := step_sound (r := r) (Q := Lift n g0 w0 ds Q) (next := wpAnyIn (FR r) 0 P .any ops (Lift n g0 w0 ds Q) fuel (listed.setIfInBounds i true)) hI hr hfront (fun g' w' v x σ' hE' hI' hv hh => next g' w' v x σ' hE' hI' hv (hh.2.2 fun t => lenOk_of (relE_put (relE_mono hE' hr) (fun k hk => by rw [hn]; exact hdst i oi hoi k hk) hv t)))
      exact this

/-- A REGION THAT DRAWS ITS ORDER. -/
theorem region_drawT_sound {r : Option Nat} {n id : Nat} {g : G} {w : World} {a : Act} {τ : Env} {σ : AST} {Q : Exit → Env → AST → Prop} (T : Tr) (hT : trOk P ops T = true) (hdst : ∀ (j : Nat) o, ops[j]? = some o → ∀ k, o.dst = some k → k < n)
    (hm : P.follows .mixedOrders = true) (h : awpT P ops T [] τ σ (Q .normal)) (hI : Inv g σ w) (hr : relE g w τ a.tmps) (hn : a.tmps.size = n) :
    (Code.region id ops true).wpIn (FR r) 0 P (Lift n g w a.defers Q) a w := by
  unfold trOk at hT
  simp only [Bool.and_eq_true, decide_eq_true_eq, List.all_eq_true, Bool.not_eq_true', List.contains_eq_mem] at hT
  obtain ⟨⟨⟨⟨⟨h2, h4⟩, h6⟩, h5⟩, h1⟩, h7⟩ := hT
  have hmem : ∀ i, i < ops.size → i ∈ T.mems := fun i hi => (h5 i (List.mem_range.2 hi)).1
  have hself : ∀ i, i < ops.size → ahead (anc ops) i i = false := fun i hi => (h5 i (List.mem_range.2 hi)).2
  have hrep : ∀ (i : Nat) (b : Bool), (Array.replicate ops.size false).getD i b = if i < ops.size then false else b := by
    intro i b
    by_cases hi : i < ops.size <;> simp [Array.getD, hi]
  refine wpIn_region_any hm ?_
  exact anyT_sound (fun _ _ h => h) hdst h6 ops.size _ T _ g _ a τ σ (by simp) (fun i => by
      rw [hrep]
      constructor
      · intro hi; have := h2 i hi; simp [this]
      · rintro ⟨hi, _⟩; exact hmem i hi) h4 hself (fun x => by
      rw [List.mem_filter, List.mem_range]
      exact ⟨fun h => ⟨hmem x h.1, h.2⟩, fun h => ⟨h2 x h.1, h.2⟩⟩) ⟨_, h7⟩ (fun y hy hl => by rw [hrep, if_pos hy] at hl; cases hl) h1 h (ev_drew g w) (inv_drew hI) (relE_mono (ev_drew g w) hr) hn rfl

end Go.Aff

