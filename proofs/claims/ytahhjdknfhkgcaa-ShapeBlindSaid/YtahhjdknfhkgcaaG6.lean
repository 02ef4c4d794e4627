import Derived.Test.YtahhjdknfhkgcaaG5
import Derived.Sort.LoopGhostIn
import Derived.Scope

set_option linter.unusedSimpArgs false
set_option linter.unusedVariables false

namespace Go.Aff

variable {g g' : G} {w w' : World} {σ σ' : AST} {P : Program} {ops : Array Oper}

inductive Tr where
  | nil
  | op (i : Nat) (r : Tr)
  | fork (e : Nat) (a b : Tr)

def Tr.mems : Tr → List Nat
  | .nil => []
  | .op i r => i :: r.mems
  | .fork _ a b => a.mems ++ b.mems
def Tr.len : Tr → Nat
  | .nil => 0
  | .op _ r => r.len + 1
  | .fork _ a b => max a.len b.len
def awpT (P : Program) (ops : Array Oper) : Tr → List (Nat × Env × AV) → Env → AST → (Env → AST → Prop) → Prop
  | .nil, _, τ, σ, K => K τ σ
  | .op i rest, past, τ, σ, K => match ops[i]? with
    | none => False
    | some o => if effO P o = true then stepW P ops o τ σ fun v σ' => lateW P ops i past σ' ∧ ((∀ t, lenOk ((τ.putO o.dst v) t)) → awpT P ops rest past (τ.putO o.dst v) σ' K)
      else stepW P ops o τ σ fun v σ' => (∀ t, lenOk ((τ.putO o.dst v) t)) → awpT P ops rest ((i, τ, v) :: past) (τ.putO o.dst v) σ' K
  | .fork _ a b, past, τ, σ, K => awpT P ops a past τ σ K ∧ awpT P ops b past τ σ K

theorem awpT_like : ∀ (T : Tr) {E1 E2 : List (Nat × Env × AV)} {τ : Env} {σ : AST} {K : Env → AST → Prop}, likePast ops E1 E2 → awpT P ops T E1 τ σ K → awpT P ops T E2 τ σ K
  | .nil, _, _, _, _, _, _, h => h
  | .op i R, E1, E2, τ, σ, K, hE, h => by
    simp only [awpT] at h ⊢
    split at h
    · exact h.elim
    · split at h
      · rename_i he
        rw [if_pos he]
        exact stepW_mono (fun v σ' hh => ⟨lateW_like hE hh.1, fun hv => awpT_like R hE (hh.2 hv)⟩) h
      · rename_i he
        rw [if_neg he]
        exact stepW_mono (fun v σ' hh hv => awpT_like R (likePast_cons hE _) (hh hv)) h
  | .fork _ a b, E1, E2, τ, σ, K, hE, h => ⟨awpT_like a hE h.1, awpT_like b hE h.2⟩

def effI (P : Program) (ops : Array Oper) (i : Nat) : Bool := match ops[i]? with
  | some o => effO P o
  | none => true
def apartI (ops : Array Oper) (x i : Nat) : Bool := match ops[x]?, ops[i]? with
  | some o, some q => o.apart ops q
  | _, _ => false

def Tr.front (P : Program) (ops : Array Oper) (i : Nat) : Tr → Option Tr
  | .nil => none
  | .op x r => if x = i then some r else if effI P ops x = false ∧ apartI ops x i = true then (r.front P ops i).map (.op x) else none
  | .fork e a b => if effI P ops i = true then (if i = e then a.front P ops i else b.front P ops i) else none

theorem awpT_front {n : Nat} {i : Nat} {oi : Oper} (hi : ops[i]? = some oi) (hdst : ∀ (j : Nat) o, ops[j]? = some o → ∀ k, o.dst = some k → k < n) {K : Env → AST → Prop} :
    ∀ (T T' : Tr) (past : List (Nat × Env × AV)) (τ : Env) (σ : AST), T.front P ops i = some T' → (∀ x ∈ T.mems, ahead (anc ops) i x = false) → Good n τ σ → awpT P ops T past τ σ K →
      stepW P ops oi τ σ fun v σ' => (effO P oi = true → lateW P ops i past σ') ∧ (effO P oi = false → σ' = σ) ∧ ((∀ t, lenOk ((τ.putO oi.dst v) t)) → awpT P ops T' past (τ.putO oi.dst v) σ' K)
  | .nil, T', past, τ, σ, hf, _, hG, h => by simp [Tr.front] at hf
  | .fork e a b, T', past, τ, σ, hf, hA, hG, h => by
    simp only [Tr.front] at hf
    split at hf
    · split at hf
      · exact awpT_front hi hdst a T' past τ σ hf (fun x hx => hA x (by simp [Tr.mems, hx])) hG h.1
      · exact awpT_front hi hdst b T' past τ σ hf (fun x hx => hA x (by simp [Tr.mems, hx])) hG h.2
    · cases hf
  | .op a r, T', past, τ, σ, hf, hA, hG, h => by
    simp only [Tr.front] at hf
    split at hf
    · rename_i hai
      subst hai
      cases hf
      simp only [awpT, hi] at h
      cases he : effO P oi with
      | true =>
        rw [he] at h
        exact stepW_mono (fun v σ' hh => ⟨fun _ => hh.1, (fun q => by cases q), hh.2⟩) h
      | false =>
        rw [he] at h
        simp only [Bool.false_eq_true, if_false] at h
        obtain ⟨v, hv, hk⟩ := stepW_det hG.len he h
        exact hk _ ⟨(fun q => by cases q), fun _ => rfl, fun hlv => awpT_like r (likePast_tail past _) (hv hlv)⟩
    · split at hf
      · rename_i hne hpa
        obtain ⟨hea', hap'⟩ := hpa
        obtain ⟨r', hr', rfl⟩ := Option.map_eq_some_iff.1 hf
        have hah := hA a (by simp [Tr.mems])
        obtain ⟨oa, hoa⟩ : ∃ oa, ops[a]? = some oa := by
          cases ho : ops[a]? with
          | none => simp [effI, ho] at hea'
          | some o => exact ⟨o, rfl⟩
        have hea : effO P oa = false := by simpa [effI, hoa] using hea'
        have hap : oa.apart ops oi = true := by simpa [apartI, hoa, hi] using hap'
        obtain ⟨ap1, ap2, ap3⟩ := Oper.apart_spec hap
        simp only [awpT, hoa, hea] at h
        simp only [Bool.false_eq_true, if_false] at h
        obtain ⟨va, hva, hka⟩ := stepW_det hG.len hea h
        have heq : stepW P ops oa τ σ fun v' σ'' => v' = va ∧ σ'' = σ := hka _ ⟨rfl, rfl⟩
        have hG' : Good n (τ.putO oa.dst va) σ := hG.step (hdst a oa hoa) heq
        have ih := awpT_front hi hdst r r' ((a, τ, va) :: past) (τ.putO oa.dst va) σ hr' (fun x hx => hA x (by simp [Tr.mems, hx])) hG' (hva hG'.len)
        have hcong : ∀ K', stepW P ops oi (τ.putO oa.dst va) σ K' = stepW P ops oi τ σ K' := fun K' => stepW_congr fun t ht => putO_looks fun k hk e => ap1 k hk (e ▸ ht)
        rw [hcong] at ih
        refine stepW_mono (fun v σ' hh => ?_) ih
        obtain ⟨hlate, hpure, hrest⟩ := hh
        refine ⟨fun q x hx => hlate q x (List.mem_cons_of_mem _ hx), hpure, fun hlv => ?_⟩
        have hval : stepW P ops oa τ σ' fun v' σ'' => v' = va ∧ σ'' = σ' := by
          cases he : effO P oi with
          | true => exact hlate he (a, τ, va) (by simp) hah oa hoa
          | false => rw [hpure he]; exact heq
        have hcong2 : stepW P ops oa τ σ' (fun v' σ'' => v' = va ∧ σ'' = σ') = stepW P ops oa (τ.putO oi.dst v) σ' (fun v' σ'' => v' = va ∧ σ'' = σ') :=
          stepW_congr fun t ht => (putO_looks fun k hk e => ap3 k hk (e ▸ ht)).symm
        rw [hcong2] at hval
        simp only [awpT, hoa, hea]
        simp only [Bool.false_eq_true, if_false]
        refine stepW_mono (fun v' σ'' hh _ => ?_) hval
        obtain ⟨rfl, rfl⟩ := hh
        rename_i hlv2
        rw [putO_comm _ _ fun d hd e => ap2 d e hd]
        rw [putO_comm _ _ fun d hd e => ap2 d e hd] at hlv2
        replace hrest := hrest hlv2
        refine awpT_like _ ?_ hrest
        intro x2 h2
        rcases List.mem_cons.1 h2 with rfl | h2
        · refine ⟨(a, τ, v'), by simp, rfl, rfl, fun o ho t ht => ?_⟩
          rw [hoa] at ho; cases ho
          exact (putO_looks fun k hk e => ap3 k hk (e ▸ ht)).symm
        · exact ⟨x2, List.mem_cons_of_mem _ h2, rfl, rfl, fun _ _ _ _ => rfl⟩
      · cases hf

/-! ### Which trees serve -/
def Tr.starts (P : Program) (ops : Array Oper) : Tr → Bool
  | .nil => true
  | .op i _ => effI P ops i
  | .fork _ a b => a.starts P ops && b.starts P ops
def pairT (P : Program) (ops : Array Oper) (b : List Nat) (x y : Nat) : Bool :=
  !ahead b x y && (ahead b y x || (apartI ops x y && !effI P ops x) || (effI P ops x && effI P ops y))
def Tr.ok (P : Program) (ops : Array Oper) (b : List Nat) : Tr → Bool
  | .nil => true
  | .op x r => !r.mems.contains x && r.mems.all (fun y => pairT P ops b x y || (effI P ops x && !ahead b x y && r.mems.any fun z => ahead b y z)) && r.ok P ops b
  | .fork _ u v => u.mems.all (fun x => v.mems.contains x) && v.mems.all (fun x => u.mems.contains x) && u.starts P ops && v.starts P ops && u.ok P ops b && v.ok P ops b
def Tr.frontC (P : Program) (ops : Array Oper) (i : Nat) : Tr → Option Tr
  | .nil => none
  | .op x r => if x = i then some r else if effI P ops x = false ∧ (apartI ops x i || ahead (anc ops) i x) = true then (r.frontC P ops i).map (.op x) else none
  | .fork e a b => if effI P ops i = true then (if i = e then a.frontC P ops i else b.frontC P ops i) else none
def Tr.cov (P : Program) (ops : Array Oper) (b : List Nat) : Nat → Tr → List Nat → Bool
  | 0, _, E => E.isEmpty
  | n + 1, T, E => E.all fun i => E.any (fun x => ahead b i x) || match T.frontC P ops i with
    | none => false
    | some T' => T'.cov P ops b n (E.filter fun x => x != i)
def trOk (P : Program) (ops : Array Oper) (T : Tr) : Bool :=
  T.mems.all (· < ops.size) && T.ok P ops (anc ops) && edgesOk ops && (List.range ops.size).all (fun i => T.mems.contains i && !ahead (anc ops) i i) && decide (T.len ≤ ops.size) &&
    T.cov P ops (anc ops) ops.size ((List.range ops.size).filter fun i => effI P ops i)

theorem front_mems {i : Nat} : ∀ {T T' : Tr}, T.ok P ops (anc ops) = true → T.front P ops i = some T' → ∀ j, j ∈ T'.mems ↔ j ∈ T.mems ∧ j ≠ i
  | .nil, T', _, h, j => by simp [Tr.front] at h
  | .op x r, T', hok, h, j => by
    simp only [Tr.ok, Bool.and_eq_true, Bool.not_eq_true', List.contains_eq_mem, decide_eq_false_iff_not] at hok
    obtain ⟨⟨hnd, _⟩, hok⟩ := hok
    simp only [Tr.front] at h
    split at h
    · rename_i hx
      subst hx
      cases h
      simp only [Tr.mems, List.mem_cons]
      constructor
      · intro hj; exact ⟨.inr hj, fun e => hnd (e ▸ hj)⟩
      · rintro ⟨h1 | h1, h2⟩
        · exact absurd h1 h2
        · exact h1
    · rename_i hx
      split at h
      · obtain ⟨r', hr', rfl⟩ := Option.map_eq_some_iff.1 h
        have ih := front_mems hok hr' j
        simp only [Tr.mems, List.mem_cons, ih]
        constructor
        · rintro (rfl | ⟨h1, h2⟩)
          · exact ⟨.inl rfl, hx⟩
          · exact ⟨.inr h1, h2⟩
        · rintro ⟨rfl | h1, h2⟩
          · exact .inl rfl
          · exact .inr ⟨h1, h2⟩
      · cases h
  | .fork e a b, T', hok, h, j => by
    simp only [Tr.ok, Bool.and_eq_true, List.all_eq_true, List.contains_eq_mem, decide_eq_true_eq] at hok
    obtain ⟨⟨⟨⟨⟨s1, s2⟩, _⟩, _⟩, ha⟩, hb⟩ := hok
    simp only [Tr.front] at h
    simp only [Tr.mems, List.mem_append]
    split at h
    · split at h
      · rw [front_mems ha h j]
        exact ⟨fun h => ⟨.inl h.1, h.2⟩, fun h => ⟨h.1.elim id (s2 j), h.2⟩⟩
      · rw [front_mems hb h j]
        exact ⟨fun h => ⟨.inr h.1, h.2⟩, fun h => ⟨h.1.elim (s1 j) id, h.2⟩⟩
    · cases h
theorem front_len {i : Nat} : ∀ {T T' : Tr}, T.front P ops i = some T' → T'.len + 1 ≤ T.len
  | .nil, T', h => by simp [Tr.front] at h
  | .op x r, T', h => by
    simp only [Tr.front] at h
    split at h
    · cases h; simp [Tr.len]
    · split at h
      · obtain ⟨r', hr', rfl⟩ := Option.map_eq_some_iff.1 h
        have := front_len hr'
        simp only [Tr.len]; omega
      · cases h
  | .fork e a b, T', h => by
    simp only [Tr.front] at h
    split at h
    · split at h
      · have := front_len h; simp only [Tr.len]; omega
      · have := front_len h; simp only [Tr.len]; omega
    · cases h
theorem front_ok {i : Nat} : ∀ {T T' : Tr}, T.ok P ops (anc ops) = true → T.front P ops i = some T' → T'.ok P ops (anc ops) = true
  | .nil, T', _, h => by simp [Tr.front] at h
  | .op x r, T', hok, h => by
    have hok0 := hok
    simp only [Tr.ok, Bool.and_eq_true, Bool.not_eq_true', List.contains_eq_mem, decide_eq_false_iff_not, List.all_eq_true] at hok
    obtain ⟨⟨hnd, hall⟩, hok⟩ := hok
    simp only [Tr.front] at h
    split at h
    · cases h; exact hok
    · split at h
      · obtain ⟨r', hr', rfl⟩ := Option.map_eq_some_iff.1 h
        have hm := front_mems hok hr'
        simp only [Tr.ok, Bool.and_eq_true, Bool.not_eq_true', List.contains_eq_mem, decide_eq_false_iff_not, List.all_eq_true]
        rename_i hpx
        refine ⟨⟨fun hx => hnd ((hm x).1 hx).1, fun y hy => ?_⟩, front_ok hok hr'⟩
        have h1 := hall y ((hm y).1 hy).1
        rw [hpx.1] at h1 ⊢
        simpa using h1
      · cases h
  | .fork e a b, T', hok, h => by
    simp only [Tr.ok, Bool.and_eq_true] at hok
    obtain ⟨⟨_, ha⟩, hb⟩ := hok
    simp only [Tr.front] at h
    split at h
    · split at h
      · exact front_ok ha h
      · exact front_ok hb h
    · cases h
theorem front_pure {i : Nat} (hi : effI P ops i = false) : ∀ {T : Tr}, T.ok P ops (anc ops) = true → i ∈ T.mems → (∀ x ∈ T.mems, ahead (anc ops) i x = false) → ∃ T', T.front P ops i = some T'
  | .nil, _, h, _ => by simp [Tr.mems] at h
  | .op x r, hok, hm, hah => by
    simp only [Tr.ok, Bool.and_eq_true, Bool.not_eq_true', List.contains_eq_mem, decide_eq_false_iff_not, List.all_eq_true] at hok
    obtain ⟨⟨hnd, hall⟩, hok⟩ := hok
    simp only [Tr.front]
    by_cases hx : x = i
    · exact ⟨r, by rw [if_pos hx]⟩
    · have hmr : i ∈ r.mems := by simp only [Tr.mems, List.mem_cons] at hm; exact hm.resolve_left (fun e => hx e.symm)
      obtain ⟨r', hr'⟩ := front_pure hi hok hmr (fun y hy => hah y (by simp [Tr.mems, hy]))
      have hp := hall i hmr
      have hno : (r.mems.any fun z => ahead (anc ops) i z) = false := List.any_eq_false.2 fun z hz => by simp [hah z (by simp [Tr.mems, hz])]
      simp only [hno, pairT, hah x (by simp [Tr.mems]), hi, Bool.and_false, Bool.or_false, Bool.false_or, Bool.and_eq_true, Bool.not_eq_true'] at hp
      rw [if_neg hx, if_pos ⟨hp.2.2, hp.2.1⟩, hr']
      exact ⟨_, rfl⟩
  | .fork e a b, hok, hm, hah => by
    exfalso
    simp only [Tr.ok, Bool.and_eq_true, List.all_eq_true, List.contains_eq_mem, decide_eq_true_eq] at hok
    obtain ⟨⟨⟨⟨⟨s1, s2⟩, st⟩, _⟩, ha⟩, hb⟩ := hok
    have hma : i ∈ a.mems := by simp only [Tr.mems, List.mem_append] at hm; exact hm.elim id (s2 i)
    have key : ∀ (T : Tr), T.ok P ops (anc ops) = true → T.starts P ops = true → i ∈ T.mems → (∀ x ∈ T.mems, ahead (anc ops) i x = false) → False := by
      intro T
      induction T with
      | nil => intro _ _ h _; simp [Tr.mems] at h
      | op x r ih =>
        intro hok hst hm hah
        simp only [Tr.ok, Bool.and_eq_true, Bool.not_eq_true', List.all_eq_true] at hok
        simp only [Tr.starts] at hst
        simp only [Tr.mems, List.mem_cons] at hm
        rcases hm with rfl | hm
        · rw [hst] at hi; cases hi
        · have hp := hok.1.2 i hm
          have hno : (r.mems.any fun z => ahead (anc ops) i z) = false := List.any_eq_false.2 fun z hz => by simp [hah z (by simp [Tr.mems, hz])]
          rw [hno] at hp
          simp [pairT, hah x (by simp [Tr.mems]), hi, hst] at hp
      | fork e u v ih1 ih2 =>
        intro hok hst hm hah
        simp only [Tr.ok, Bool.and_eq_true, List.all_eq_true, List.contains_eq_mem, decide_eq_true_eq] at hok
        simp only [Tr.starts, Bool.and_eq_true] at hst
        refine ih1 hok.1.2 hst.1 ?_ (fun x hx => hah x (by simp [Tr.mems, hx]))
        simp only [Tr.mems, List.mem_append] at hm
        exact hm.elim id (hok.1.1.1.1.2 i)
    exact key a ha st hma (fun x hx => hah x (by simp [Tr.mems, hx]))
theorem frontC_front {i : Nat} : ∀ {T T' : Tr}, (∀ x ∈ T.mems, ahead (anc ops) i x = false) → T.frontC P ops i = some T' → T.front P ops i = some T'
  | .nil, T', _, h => by simp [Tr.frontC] at h
  | .op x r, T', hah, h => by
    simp only [Tr.frontC, hah x (by simp [Tr.mems]), Bool.or_false] at h
    simp only [Tr.front]
    split at h
    · rename_i hx; rw [if_pos hx]; exact h
    · rename_i hx
      rw [if_neg hx]
      split at h
      · rename_i hp
        obtain ⟨r', hr', rfl⟩ := Option.map_eq_some_iff.1 h
        rw [if_pos hp, frontC_front (fun y hy => hah y (by simp [Tr.mems, hy])) hr']; rfl
      · cases h
  | .fork e a b, T', hah, h => by
    simp only [Tr.frontC] at h
    simp only [Tr.front]
    split at h
    · rename_i he
      rw [if_pos he]
      split at h
      · rename_i hx; rw [if_pos hx]; exact frontC_front (fun y hy => hah y (by simp [Tr.mems, hy])) h
      · rename_i hx; rw [if_neg hx]; exact frontC_front (fun y hy => hah y (by simp [Tr.mems, hy])) h
    · cases h
theorem front_comm {i j : Nat} (hj : effI P ops j = false) (hi : effI P ops i = true) : ∀ {T T1 T' : Tr}, T.front P ops j = some T1 → T.frontC P ops i = some T' → ∃ T1', T1.frontC P ops i = some T1' ∧ T'.front P ops j = some T1'
  | .nil, T1, T', h, _ => by simp [Tr.front] at h
  | .op x r, T1, T', h1, h2 => by
    have hij : i ≠ j := fun e => by rw [e, hj] at hi; cases hi
    simp only [Tr.front] at h1
    simp only [Tr.frontC] at h2
    by_cases hxi : x = i
    · subst hxi
      rw [if_neg hij, if_neg (by simp [hi])] at h1; cases h1
    · rw [if_neg hxi] at h2
      split at h2
      · rename_i hp2
        obtain ⟨r2, hr2, rfl⟩ := Option.map_eq_some_iff.1 h2
        by_cases hxj : x = j
        · subst hxj
          rw [if_pos rfl] at h1; cases h1
          exact ⟨r2, hr2, by simp [Tr.front]⟩
        · rw [if_neg hxj] at h1
          split at h1
          · rename_i hp1
            obtain ⟨r1, hr1, rfl⟩ := Option.map_eq_some_iff.1 h1
            obtain ⟨q, q1, q2⟩ := front_comm hj hi hr1 hr2
            refine ⟨.op x q, ?_, ?_⟩
            · simp only [Tr.frontC]; rw [if_neg hxi, if_pos hp2, q1]; rfl
            · simp only [Tr.front]; rw [if_neg hxj, if_pos hp1, q2]; rfl
          · cases h1
      · cases h2
  | .fork e a b, T1, T', h1, h2 => by
    simp only [Tr.front, hj] at h1
    simp at h1
theorem cov_pure {j : Nat} (hj : effI P ops j = false) : ∀ (n : Nat) {T T1 : Tr} {E : List Nat}, (∀ x ∈ E, effI P ops x = true) → T.front P ops j = some T1 → T.cov P ops (anc ops) n E = true → T1.cov P ops (anc ops) n E = true
  | 0, T, T1, E, _, _, h => h
  | n + 1, T, T1, E, hE, hf, h => by
    simp only [Tr.cov, List.all_eq_true, Bool.or_eq_true] at h ⊢
    intro i hi
    rcases h i hi with h1 | h1
    · exact .inl h1
    · right
      split at h1
      · cases h1
      · rename_i T' hT'
        obtain ⟨q, q1, q2⟩ := front_comm hj (hE i hi) hf hT'
        rw [q1]
        exact cov_pure hj n (fun x hx => hE x (List.mem_filter.1 hx).1) q2 h1
theorem awpT_nil {K : Env → AST → Prop} : ∀ {T : Tr} {past : List (Nat × Env × AV)} {τ : Env} {σ : AST}, T.mems = [] → awpT P ops T past τ σ K → K τ σ
  | .nil, past, τ, σ, _, h => h
  | .op i r, past, τ, σ, hm, _ => by simp [Tr.mems] at hm
  | .fork e a b, past, τ, σ, hm, h => by simp [Tr.mems] at hm; exact awpT_nil hm.1 h.1
theorem first_ready : ∀ {T : Tr}, T.ok P ops (anc ops) = true → T.mems ≠ [] → ∃ r ∈ T.mems, ∀ x ∈ T.mems, x ≠ r → ahead (anc ops) r x = false
  | .nil, _, h => by simp [Tr.mems] at h
  | .op i r, hok, _ => by
    simp only [Tr.ok, Bool.and_eq_true, Bool.not_eq_true', List.all_eq_true] at hok
    refine ⟨i, by simp [Tr.mems], fun x hx hne => ?_⟩
    simp only [Tr.mems, List.mem_cons] at hx
    have := hok.1.2 x (hx.resolve_left hne)
    rcases Bool.or_eq_true_iff.1 this with h | h
    · simp only [pairT, Bool.and_eq_true, Bool.not_eq_true'] at h
      exact h.1
    · simp only [Bool.and_eq_true, Bool.not_eq_true'] at h
      exact h.1.2
  | .fork e a b, hok, hm => by
    simp only [Tr.ok, Bool.and_eq_true, List.all_eq_true, List.contains_eq_mem, decide_eq_true_eq] at hok
    obtain ⟨⟨⟨⟨⟨s1, s2⟩, _⟩, _⟩, ha⟩, hb⟩ := hok
    have hne : a.mems ≠ [] := by
      intro h
      apply hm
      simp only [Tr.mems, h, List.nil_append]
      apply List.eq_nil_iff_forall_not_mem.2
      intro x hx
      have := s2 x hx
      rw [h] at this; simp at this
    obtain ⟨r, hr, hx⟩ := first_ready ha hne
    refine ⟨r, by simp [Tr.mems, hr], fun x hxm hne => hx x ?_ hne⟩
    simp only [Tr.mems, List.mem_append] at hxm
    exact hxm.elim id (s2 x)
theorem anyT_sound {r : Option Nat} {n : Nat} {g0 : G} {w0 : World} {ds : List Deferred} {Q : Exit → Env → AST → Prop} {K : Env → AST → Prop} (hK : ∀ τ σ, K τ σ → Q .normal τ σ) (hdst : ∀ (j : Nat) o, ops[j]? = some o → ∀ k, o.dst = some k → k < n) (hedge : edgesOk ops = true) :
    ∀ (fuel : Nat) (listed : Array Bool) (T : Tr) (E : List Nat) (g : G) (w : World) (a : Act) (τ : Env) (σ : AST), listed.size = ops.size → (∀ i, i ∈ T.mems ↔ i < ops.size ∧ listed.getD i true = false) → T.ok P ops (anc ops) = true → (∀ i, i < ops.size → ahead (anc ops) i i = false) →
      (∀ x, x ∈ E ↔ x ∈ T.mems ∧ effI P ops x = true) → (∃ m, T.cov P ops (anc ops) m E = true) →
      (∀ y, y < ops.size → listed.getD y false = true → ∀ x, ahead (anc ops) y x = true → listed.getD x false = true) → T.len ≤ fuel →
      awpT P ops T [] τ σ K → Ev g0 w0 g w → Inv g σ w → relE g w τ a.tmps → a.tmps.size = n → a.defers = ds → wpAnyIn (FR r) 0 P .any ops (Lift n g0 w0 ds Q) fuel listed a w := by
  intro fuel
  have getD_tf : ∀ {listed : Array Bool} {i : Nat}, i < listed.size → listed.getD i true = listed.getD i false := by
    intro listed i h; simp [Array.getD, h]
  have edges : ∀ {y : Nat} {o : Oper} {e : Edge}, ops[y]? = some o → e ∈ o.after.toList → Region.binds .any e = true → e.on < ops.size := by
    intro y o e ho he hb
    unfold edgesOk at hedge
    rw [Array.all_eq_true] at hedge
    obtain ⟨hy, rfl⟩ := Array.getElem?_eq_some_iff.1 ho
    have h1 := hedge y hy
    rw [Array.all_eq_true] at h1
    obtain ⟨k, hk, rfl⟩ := List.mem_iff_getElem.1 he
    have h2 := h1 k (by simpa using hk)
    simp only [Array.getElem_toList] at hb
    rw [hb] at h2
    simpa using h2
  have ready_spec : ∀ {listed : Array Bool} {i : Nat}, listed.size = ops.size → (i ∈ Region.ready .any ops listed ↔ i < ops.size ∧ listed.getD i true = false ∧ ∀ o, ops[i]? = some o → ∀ e ∈ o.after.toList, Region.binds .any e = true → listed.getD e.on false = true) := by
    intro listed i hsz
    unfold Region.ready
    simp only [List.mem_filter, List.mem_range, Bool.and_eq_true, Bool.not_eq_true']
    constructor
    · rintro ⟨h1, h2, h3⟩
      refine ⟨h1, h2, fun o ho e he hb => ?_⟩
      rw [ho] at h3
      simp only [Option.map_some, Option.getD_some] at h3
      rw [Array.all_eq_true] at h3
      obtain ⟨k, hk, rfl⟩ := List.mem_iff_getElem.1 he
      have := h3 k (by simpa using hk)
      simp only [Array.getElem_toList] at hb ⊢
      rw [hb] at this
      simpa using this
    · rintro ⟨h1, h2, h3⟩
      refine ⟨h1, h2, ?_⟩
      rw [Array.getElem?_eq_getElem h1]
      simp only [Option.map_some, Option.getD_some]
      rw [Array.all_eq_true]
      intro k hk
      have := h3 _ (Array.getElem?_eq_getElem h1) ops[i].after[k] (by simp)
      cases hb : Region.binds .any ops[i].after[k] with
      | false => rfl
      | true => simpa using this hb
  -- what stands ahead of a ready operation has been listed
  have ahead_listed : ∀ {listed : Array Bool}, listed.size = ops.size → (∀ y, y < ops.size → listed.getD y false = true → ∀ x, ahead (anc ops) y x = true → listed.getD x false = true) → ∀ {i x : Nat}, i ∈ Region.ready .any ops listed → ahead (anc ops) i x = true → listed.getD x false = true := by
    intro listed hsz hcl i x hi hx
    obtain ⟨o, ho, e, he, hb, hh⟩ := anc_bit hx
    have h1 := ((ready_spec hsz).1 hi).2.2 o ho e he hb
    rcases hh with rfl | hh
    · exact h1
    · exact hcl e.on (edges ho he hb) h1 x hh
  have none_ready : ∀ {listed : Array Bool} {T : Tr}, listed.size = ops.size → (∀ i, i ∈ T.mems ↔ i < ops.size ∧ listed.getD i true = false) → T.ok P ops (anc ops) = true → (∀ i, i < ops.size → ahead (anc ops) i i = false) → Region.ready .any ops listed = [] → T.mems = [] := by
    intro listed T hsz hR hok hself hr
    by_cases h0 : T.mems = []
    · exact h0
    · exfalso
      obtain ⟨q, hq, hx⟩ := first_ready hok h0
      have hr1 := (hR q).1 hq
      have : q ∈ Region.ready .any ops listed := by
        rw [ready_spec hsz]
        refine ⟨hr1.1, hr1.2, fun o ho e he hb => ?_⟩
        cases hl : listed.getD e.on false with
        | true => rfl
        | false =>
          exfalso
          have hlt := edges ho he hb
          have hmem : e.on ∈ T.mems := (hR _).2 ⟨hlt, by rw [getD_tf (by rw [hsz]; exact hlt)]; exact hl⟩
          have hah : ahead (anc ops) q e.on = true := anc_edge ho he hb
          by_cases heq : e.on = q
          · rw [heq, hself q hr1.1] at hah; cases hah
          · rw [hx _ hmem heq] at hah; cases hah
      rw [hr] at this; simp at this
  have len_mems : ∀ {T : Tr}, T.len = 0 → T.mems = [] := by
    intro T
    induction T with
    | nil => intro _; rfl
    | op i r ih => intro h; simp [Tr.len] at h
    | fork e a b ih1 ih2 =>
      intro h
      simp only [Tr.len] at h
      simp only [Tr.mems, ih1 (by omega), ih2 (by omega), List.append_nil]
  induction fuel with
  | zero =>
    intro listed T E g w a τ σ hsz hR hok hself hE hcov hcl hlen h hEv hI hr hn hd
    have hR0 : T.mems = [] := len_mems (by omega)
    refine ⟨?_, g, τ, σ, hEv, hI, hr, hn, hd, hK _ _ (awpT_nil hR0 h)⟩
    apply List.eq_nil_iff_forall_not_mem.2
    intro i hi
    have h1 := (ready_spec hsz).1 hi
    have := (hR i).2 ⟨h1.1, h1.2.1⟩
    rw [hR0] at this
    simp at this
  | succ fuel ih =>
    intro listed T E g w a τ σ hsz hR hok hself hE hcov hcl hlen h hEv hI hr hn hd
    refine ⟨fun hrd => ?_, fun i hi => ?_⟩
    · have hR0 := none_ready hsz hR hok hself hrd
      exact ⟨g, τ, σ, hEv, hI, hr, hn, hd, hK _ _ (awpT_nil hR0 h)⟩
    · have h1 := (ready_spec hsz).1 hi
      have hmem := (hR i).2 ⟨h1.1, h1.2.1⟩
      obtain ⟨oi, hoi⟩ : ∃ o, ops[i]? = some o := ⟨_, Array.getElem?_eq_getElem h1.1⟩
      have hA : ∀ x ∈ T.mems, ahead (anc ops) i x = false := by
        intro x hx
        have hxR := (hR x).1 hx
        cases hb : ahead (anc ops) i x with
        | false => rfl
        | true =>
          have := ahead_listed hsz hcl hi hb
          rw [getD_tf (by rw [hsz]; exact hxR.1), this] at hxR
          cases hxR.2
      obtain ⟨m, hcov⟩ := hcov
      have hex : ∃ T', T.front P ops i = some T' ∧ ∃ E' m', (∀ x, x ∈ E' ↔ x ∈ T'.mems ∧ effI P ops x = true) ∧ T'.cov P ops (anc ops) m' E' = true := by
        cases he : effI P ops i with
        | false =>
          obtain ⟨T', hT'⟩ := front_pure he hok hmem hA
          refine ⟨T', hT', E, m, fun x => ?_, cov_pure he m (fun x hx => ((hE x).1 hx).2) hT' hcov⟩
          rw [hE x, front_mems hok hT' x]
          constructor
          · rintro ⟨p, q⟩; exact ⟨⟨p, fun e => by rw [e, he] at q; cases q⟩, q⟩
          · rintro ⟨⟨p, _⟩, q⟩; exact ⟨p, q⟩
        | true =>
          have hiE : i ∈ E := (hE i).2 ⟨hmem, he⟩
          cases m with
          | zero =>
            simp only [Tr.cov, List.isEmpty_iff] at hcov
            rw [hcov] at hiE; simp at hiE
          | succ m =>
            simp only [Tr.cov, List.all_eq_true, Bool.or_eq_true] at hcov
            rcases hcov i hiE with hc | hc
            · exfalso
              rw [List.any_eq_true] at hc
              obtain ⟨x, hxE, hx⟩ := hc
              rw [hA x ((hE x).1 hxE).1] at hx; cases hx
            · split at hc
              · cases hc
              · rename_i T' hT'
                have hT' := frontC_front hA hT'
                refine ⟨T', hT', _, m, fun x => ?_, hc⟩
                rw [front_mems hok hT' x, List.mem_filter, hE x]
                simp only [bne_iff_ne, ne_eq]
                constructor
                · rintro ⟨⟨p, q⟩, s⟩; exact ⟨⟨p, s⟩, q⟩
                · rintro ⟨⟨p, s⟩, q⟩; exact ⟨⟨p, q⟩, s⟩
      obtain ⟨T', hT', E', m', hE', hcov'⟩ := hex
      have hfront := awpT_front (n := n) hoi hdst T T' [] τ σ hT' hA ⟨g, w, a, hI, hr, hn⟩ h
      unfold wpOpIn
      rw [hoi]
      simp only
      have next : ∀ (g' : G) (w' : World) (v : AV) (x : Value) (σ' : AST), Ev g w g' w' → Inv g' σ' w' → relV g' w' v x → awpT P ops T' [] (τ.putO oi.dst v) σ' K → wpAnyIn (FR r) 0 P .any ops (Lift n g0 w0 ds Q) fuel (listed.setIfInBounds i true) (a.put oi.dst x) w' := by
        intro g' w' v x σ' hE2 hI' hv hh
        refine ih (listed.setIfInBounds i true) T' E' g' w' _ _ σ' (by simp [hsz]) ?_ (front_ok hok hT') hself hE' ⟨m', hcov'⟩ ?_ (by have := front_len hT'; omega) hh (hEv.trans hE2) hI' (relE_put (relE_mono hE2 hr) (fun k hk => by rw [hn]; exact hdst i oi hoi k hk) hv) (by rw [size_put, hn]) (by rw [put_defers, hd])
        · intro j
          rw [getD_set (by rw [hsz]; exact h1.1), front_mems hok hT' j, hR j]
          by_cases hj : j = i
          · subst hj
            simp
          · rw [if_neg hj]
            exact ⟨fun h => h.1, fun h => ⟨h, hj⟩⟩
        · intro y hy hly z hz
          rw [getD_set (by rw [hsz]; exact h1.1)] at hly ⊢
          by_cases hzi : z = i
          · rw [if_pos hzi]
          · rw [if_neg hzi]
            by_cases hyi : y = i
            · subst hyi; exact ahead_listed hsz hcl hi hz
            · rw [if_neg hyi] at hly; exact hcl y hy hly z hz
      have := step_sound (r := r) (Q := Lift n g0 w0 ds Q) (next := wpAnyIn (FR r) 0 P .any ops (Lift n g0 w0 ds Q) fuel (listed.setIfInBounds i true)) hI hr hfront (fun g' w' v x σ' hE' hI' hv hh => next g' w' v x σ' hE' hI' hv (hh.2.2 fun t => lenOk_of (relE_put (relE_mono hE' hr) (fun k hk => by rw [hn]; exact hdst i oi hoi k hk) hv t)))
      exact this

theorem region_drawT_sound {r : Option Nat} {n id : Nat} {g : G} {w : World} {a : Act} {τ : Env} {σ : AST} {Q : Exit → Env → AST → Prop} (T : Tr) (hT : trOk P ops T = true) (hdst : ∀ (j : Nat) o, ops[j]? = some o → ∀ k, o.dst = some k → k < n)
    (hm : P.follows .mixedOrders = true) (h : awpT P ops T [] τ σ (Q .normal)) (hI : Inv g σ w) (hr : relE g w τ a.tmps) (hn : a.tmps.size = n) :
    (Code.region id ops true).wpIn (FR r) 0 P (Lift n g w a.defers Q) a w := by
  unfold trOk at hT
  simp only [Bool.and_eq_true, decide_eq_true_eq, List.all_eq_true, Bool.not_eq_true', List.contains_eq_mem] at hT
  obtain ⟨⟨⟨⟨⟨h2, h4⟩, h6⟩, h5⟩, h1⟩, h7⟩ := hT
  have hmem : ∀ i, i < ops.size → i ∈ T.mems := fun i hi => (h5 i (List.mem_range.2 hi)).1
  have hself : ∀ i, i < ops.size → ahead (anc ops) i i = false := fun i hi => (h5 i (List.mem_range.2 hi)).2
  have hrep : ∀ (i : Nat) (b : Bool), (Array.replicate ops.size false).getD i b = if i < ops.size then false else b := by
    intro i b
    by_cases hi : i < ops.size <;> simp [Array.getD, hi]
  refine wpIn_region_any hm ?_
  exact anyT_sound (fun _ _ h => h) hdst h6 ops.size _ T _ g _ a τ σ (by simp) (fun i => by
      rw [hrep]
      constructor
      · intro hi; have := h2 i hi; simp [this]
      · rintro ⟨hi, _⟩; exact hmem i hi) h4 hself (fun x => by
      rw [List.mem_filter, List.mem_range]
      exact ⟨fun h => ⟨hmem x h.1, h.2⟩, fun h => ⟨h2 x h.1, h.2⟩⟩) ⟨_, h7⟩ (fun y hy hl => by rw [hrep, if_pos hy] at hl; cases hl) h1 h (ev_drew g w) (inv_drew hI) (relE_mono (ev_drew g w) hr) hn rfl

end Go.Aff

namespace Go.Aff

variable {g g' : G} {w w' : World} {σ σ' : AST} {P : Program} {ops : Array Oper}

def awpSeq (P : Program) (ops : Array Oper) : List Oper → Env → AST → (Env → AST → Prop) → Prop
  | [], τ, σ, K => K τ σ
  | o :: r, τ, σ, K => stepW P ops o τ σ fun v σ' => awpSeq P ops r (τ.putO o.dst v) σ' K

theorem seq_sound {r0 : Option Nat} {n : Nat} {g0 : G} {w0 : World} {ds : List Deferred} {Q : Exit → Env → AST → Prop} (hdst : ∀ (j : Nat) o, ops[j]? = some o → ∀ k, o.dst = some k → k < n) :
    ∀ (r : List Oper) (k : Nat) (g : G) (w : World) (a : Act) (τ : Env) (σ : AST), ops.toList.drop k = r → awpSeq P ops r τ σ (Q .normal) → Ev g0 w0 g w → Inv g σ w → relE g w τ a.tmps → a.tmps.size = n → a.defers = ds →
      wpOpsIn (FR r0) 0 P ops (Lift n g0 w0 ds Q) (List.range' k r.length) a w
  | [], k, g, w, a, τ, σ, hk, h, hE, hI, hr, hn, hd => ⟨g, τ, σ, hE, hI, hr, hn, hd, h⟩
  | o :: r, k, g, w, a, τ, σ, hk, h, hE, hI, hr, hn, hd => by
    have ho : ops[k]? = some o := by
      have : (ops.toList.drop k)[0]? = some o := by rw [hk]; rfl
      simpa using this
    have hk' : ops.toList.drop (k + 1) = r := by
      have h0 : (ops.toList.drop k).drop 1 = r := by rw [hk]; rfl
      rw [← h0, List.drop_drop]
    simp only [List.length_cons, List.range'_succ]
    rw [wpOpsIn_cons]
    unfold wpOpIn
    rw [ho]
    simp only [awpSeq] at h
    exact step_sound hI hr h (fun g' w' v x σ' hE' hI' hv hh =>
      seq_sound hdst r (k + 1) g' w' _ _ σ' hk' hh (hE.trans hE') hI' (relE_put (relE_mono hE' hr) (fun q hq => by rw [hn]; exact hdst k o ho q hq) hv) (by rw [size_put, hn]) (by rw [put_defers, hd]))

def thenQ (next : Env → AST → Prop) (Q : Exit → Env → AST → Prop) : Exit → Env → AST → Prop
  | .normal, τ, σ => next τ σ
  | e, τ, σ => Q e τ σ

section
variable {P : Program} {b : Frame} {a : Act} {k : List Item} {cs : List Frame} {w : World} {F : Fence} {n : Nat} {Q : Exit → Act → World → Prop}
theorem stepR_scope {c : Code} : step P (lone (b.atR a (.code (.scope c) :: k)) cs w) = .next (lone (b.atR a (.code c :: .inScope c :: k)) cs w) :=
  step_lone_go (by simp [stepG, stepG.exec, Frame.atR])
theorem stepR_inScope {c : Code} : step P (lone (b.atR a (.inScope c :: k)) cs w) = .next (lone (b.atR a k) cs w) :=
  step_lone_go (by simp [stepG, stepG.exec, Frame.atR])
theorem wpIn_scope {c : Code} (h : c.wpIn F n P (Exit.noGoto Q) a w) : (Code.scope c).wpIn F n P Q a w := by
  intro b k cs hro hb hr
  have h0 : (lone (b.atR a (.code (.scope c) :: k)) cs w).fenced P F := fenced_calm hb hr rfl
  obtain ⟨e, a₁, w₁, hq, harr⟩ := h b (.inScope c :: k) cs hro hb hr
  cases e with
  | normal => exact ⟨.normal, a₁, w₁, hq, .head h0 stepR_scope (StepsIn.trans harr (.one (fenced_calm hb hr rfl) stepR_inScope))⟩
  | exit id =>
    have hx : exitTo id (.inScope c :: k) = exitTo id k := by simp [exitTo]
    exact ⟨.exit id, a₁, w₁, hq, fun k' hk => .head h0 stepR_scope (harr.1 k' (by rw [hx]; exact hk)),
      fun hr' hk => let ⟨k₁, h1, h2⟩ := harr.2 hr' (by rw [hx]; exact hk); ⟨k₁, h1, .head h0 stepR_scope h2⟩⟩
  | goto l => exact hq.elim
  | ret => exact ⟨_, a₁, w₁, hq, .of_steps (.one h0 stepR_scope) harr⟩
  | panic ch => exact ⟨_, a₁, w₁, hq, .of_steps (.one h0 stepR_scope) harr⟩
  | outgrown => exact ⟨_, a₁, w₁, hq, .of_steps (.one h0 stepR_scope) harr⟩
end

def blockQ (id : Nat) (Q : Exit → Env → AST → Prop) : Exit → Env → AST → Prop
  | .exit id', τ, σ => if id' = id then Q .normal τ σ else Q (.exit id') τ σ
  | e, τ, σ => Q e τ σ

def noGotoQ (Q : Exit → Env → AST → Prop) : Exit → Env → AST → Prop
  | .goto _, _, _ => False
  | e, τ, σ => Q e τ σ

def awp (P : Program) : Code → (Exit → Env → AST → Prop) → Env → AST → Prop
  | .skip, Q, τ, σ => Q .normal τ σ
  | .region _ ops false, Q, τ, σ => awpSeq P ops ops.toList τ σ (Q .normal)
  | .region _ ops true, Q, τ, σ => (∃ ord, ordOk P ops ord = true ∧ ((∀ t, lenOk (τ t)) → awpD P ops ord [] τ σ (Q .normal))) ∨ (∃ T, trOk P ops T = true ∧ ((∀ t, lenOk (τ t)) → awpT P ops T [] τ σ (Q .normal)))
  | .seq a b, Q, τ, σ => awp P a (thenQ (fun τ σ => awp P b Q τ σ) Q) τ σ
  | .cond c a b, Q, τ, σ => boolW (ev τ c) (awp P a Q τ σ) (awp P b Q τ σ)
  | .block id c, Q, τ, σ => awp P c (blockQ id Q) τ σ
  | .loop c, Q, τ, σ => ∃ (I : Nat → Env → AST → Prop) (n : Nat), I n τ σ ∧ ∀ n τ σ, I n τ σ → awp P c (thenQ (fun τ' σ' => ∃ m, m < n ∧ I m τ' σ') Q) τ σ
  | .exit id, Q, τ, σ => Q (.exit id) τ σ
  | .scope c, Q, τ, σ => awp P c (noGotoQ Q) τ σ
  | .label _, Q, τ, σ => Q .normal τ σ
  | .goto l, Q, τ, σ => Q (.goto l) τ σ
  | .ret, Q, τ, σ => Q .ret τ σ
  | _, _, _, _ => False

def dstOk (n : Nat) : Code → Bool
  | .region _ ops _ => ops.toList.all fun o => match o.dst with
    | some k => decide (k < n)
    | none => true
  | .seq a b => dstOk n a && dstOk n b
  | .cond _ a b => dstOk n a && dstOk n b
  | .block _ c => dstOk n c
  | .loop c => dstOk n c
  | .scope c => dstOk n c
  | .rangeFunc .. => false
  | _ => true

theorem dst_of {n : Nat} (h : (ops.toList.all fun o => match o.dst with | some k => decide (k < n) | none => true) = true) : ∀ (j : Nat) o, ops[j]? = some o → ∀ k, o.dst = some k → k < n := by
  intro j o ho k hk
  rw [List.all_eq_true] at h
  have := h o (List.mem_iff_getElem?.2 ⟨j, by simpa using ho⟩)
  rw [hk] at this
  simpa using this

theorem Lift.trans {n : Nat} {ds : List Deferred} {Q : Exit → Env → AST → Prop} {e : Exit} {a : Act} {w0 w1 : World} {g0 g1 : G} (hE : Ev g0 w0 g1 w1) (h : Lift n g1 w1 ds Q e a w) : Lift n g0 w0 ds Q e a w := by
  obtain ⟨g2, τ, σ, h1, h2⟩ := h
  exact ⟨g2, τ, σ, hE.trans h1, h2⟩

theorem awp_sound {r0 : Option Nat} {n : Nat} (hm : P.follows .mixedOrders = true) : ∀ (c : Code) {Q : Exit → Env → AST → Prop} {τ : Env} {σ : AST} {g : G} {w : World} {a : Act}, dstOk n c = true → awp P c Q τ σ → Inv g σ w → relE g w τ a.tmps → a.tmps.size = n →
    c.wpIn (FR r0) 0 P (Lift n g w a.defers Q) a w
  | .skip, Q, τ, σ, g, w, a, _, h, hI, hr, hn => wpIn_skip ⟨g, τ, σ, Ev.refl _ _, hI, hr, hn, rfl, h⟩
  | .region id ops false, Q, τ, σ, g, w, a, hd, h, hI, hr, hn => by
    refine wpIn_region ?_
    have := seq_sound (r0 := r0) (n := n) (g0 := g) (w0 := w) (ds := a.defers) (Q := Q) (dst_of (by simpa [dstOk] using hd)) ops.toList 0 g w a τ σ rfl h (Ev.refl _ _) hI hr hn rfl
    rw [List.range_eq_range']
    simpa using this
  | .region id ops true, Q, τ, σ, g, w, a, hd, h, hI, hr, hn => by
    rcases h with ⟨ord, hord, h⟩ | ⟨T, hT, h⟩
    · exact region_draw_sound ord hord (dst_of (by simpa [dstOk] using hd)) hm (h fun t => lenOk_of (hr t)) hI hr hn
    · exact region_drawT_sound T hT (dst_of (by simpa [dstOk] using hd)) hm (h fun t => lenOk_of (hr t)) hI hr hn
  | .seq x y, Q, τ, σ, g, w, a, hd, h, hI, hr, hn => by
    simp only [dstOk, Bool.and_eq_true] at hd
    simp only [awp] at h
    refine wpIn_seq (wpIn_mono (awp_sound hm x hd.1 h hI hr hn) ?_)
    rintro e a' w' ⟨g', τ', σ', hE, hI', hr', hn', hds, hq⟩
    cases e with
    | normal =>
      have := awp_sound (r0 := r0) hm y hd.2 hq hI' hr' hn'
      refine wpIn_mono this fun e a2 w2 hl => ?_
      rw [hds] at hl
      exact Lift.trans hE hl
    | exit id => exact ⟨g', τ', σ', hE, hI', hr', hn', hds, hq⟩
    | goto l => exact ⟨g', τ', σ', hE, hI', hr', hn', hds, hq⟩
    | ret => exact ⟨g', τ', σ', hE, hI', hr', hn', hds, hq⟩
    | panic ch => exact ⟨g', τ', σ', hE, hI', hr', hn', hds, hq⟩
    | outgrown => exact ⟨g', τ', σ', hE, hI', hr', hn', hds, hq⟩
  | .cond c x y, Q, τ, σ, g, w, a, hd, h, hI, hr, hn => by
    simp only [dstOk, Bool.and_eq_true] at hd
    simp only [awp, boolW] at h
    split at h
    · rename_i b hb
      have hv := ev_rel hr c
      rw [hb] at hv
      exact wpIn_cond_split (relV_bool hv) (fun e => awp_sound hm x hd.1 (h.1 e) hI hr hn) (fun e => awp_sound hm y hd.2 (h.2 e) hI hr hn)
    · exact h.elim
  | .block id c, Q, τ, σ, g, w, a, hd, h, hI, hr, hn => by
    simp only [dstOk] at hd
    simp only [awp] at h
    refine wpIn_block (wpIn_mono (awp_sound hm c hd h hI hr hn) ?_)
    rintro e a' w' ⟨g', τ', σ', hE, hI', hr', hn', hds, hq⟩
    cases e with
    | exit id' =>
      simp only [Exit.inBlock, blockQ] at hq ⊢
      split
      · rename_i e; rw [if_pos e] at hq; exact ⟨g', τ', σ', hE, hI', hr', hn', hds, hq⟩
      · rename_i e; rw [if_neg e] at hq; exact ⟨g', τ', σ', hE, hI', hr', hn', hds, hq⟩
    | normal => exact ⟨g', τ', σ', hE, hI', hr', hn', hds, hq⟩
    | goto l => exact ⟨g', τ', σ', hE, hI', hr', hn', hds, hq⟩
    | ret => exact ⟨g', τ', σ', hE, hI', hr', hn', hds, hq⟩
    | panic ch => exact ⟨g', τ', σ', hE, hI', hr', hn', hds, hq⟩
    | outgrown => exact ⟨g', τ', σ', hE, hI', hr', hn', hds, hq⟩
  | .loop c, Q, τ, σ, g, w, a, hd, h, hI, hr, hn => by
    simp only [dstOk] at hd
    simp only [awp] at h
    obtain ⟨I, m0, h0, hround⟩ := h
    refine wpIn_loop_ghost (fun k a' w' => ∃ g' τ' σ', Ev g w g' w' ∧ Inv g' σ' w' ∧ relE g' w' τ' a'.tmps ∧ a'.tmps.size = n ∧ a'.defers = a.defers ∧ I k τ' σ') m0
      ⟨g, τ, σ, Ev.refl _ _, hI, hr, hn, rfl, h0⟩ ?_
    rintro k a1 w1 ⟨g1, τ1, σ1, hE1, hI1, hr1, hn1, hd1, h1⟩
    refine wpIn_mono (awp_sound hm c hd (hround k τ1 σ1 h1) hI1 hr1 hn1) ?_
    rintro e a' w' ⟨g', τ', σ', hE, hI', hr', hn', hds, hq⟩
    cases e with
    | normal => obtain ⟨m, hm, hq⟩ := hq; exact ⟨m, hm, g', τ', σ', hE1.trans hE, hI', hr', hn', hds.trans hd1, hq⟩
    | exit id => exact ⟨g', τ', σ', hE1.trans hE, hI', hr', hn', hds.trans hd1, hq⟩
    | goto l => exact ⟨g', τ', σ', hE1.trans hE, hI', hr', hn', hds.trans hd1, hq⟩
    | ret => exact ⟨g', τ', σ', hE1.trans hE, hI', hr', hn', hds.trans hd1, hq⟩
    | panic ch => exact ⟨g', τ', σ', hE1.trans hE, hI', hr', hn', hds.trans hd1, hq⟩
    | outgrown => exact ⟨g', τ', σ', hE1.trans hE, hI', hr', hn', hds.trans hd1, hq⟩
  | .exit id, Q, τ, σ, g, w, a, _, h, hI, hr, hn => wpIn_exit ⟨g, τ, σ, Ev.refl _ _, hI, hr, hn, rfl, h⟩
  | .scope c, Q, τ, σ, g, w, a, hd, h, hI, hr, hn => by
    simp only [dstOk] at hd
    simp only [awp] at h
    refine wpIn_scope (wpIn_mono (awp_sound hm c hd h hI hr hn) ?_)
    rintro e a' w' ⟨g', τ', σ', hE, hI', hr', hn', hds, hq⟩
    cases e with
    | goto l => exact hq.elim
    | normal => exact ⟨g', τ', σ', hE, hI', hr', hn', hds, hq⟩
    | exit id => exact ⟨g', τ', σ', hE, hI', hr', hn', hds, hq⟩
    | ret => exact ⟨g', τ', σ', hE, hI', hr', hn', hds, hq⟩
    | panic ch => exact ⟨g', τ', σ', hE, hI', hr', hn', hds, hq⟩
    | outgrown => exact ⟨g', τ', σ', hE, hI', hr', hn', hds, hq⟩
  | .label _, Q, τ, σ, g, w, a, _, h, hI, hr, hn => wpIn_label ⟨g, τ, σ, Ev.refl _ _, hI, hr, hn, rfl, h⟩
  | .goto l, Q, τ, σ, g, w, a, _, h, hI, hr, hn => wpIn_goto ⟨g, τ, σ, Ev.refl _ _, hI, hr, hn, rfl, h⟩
  | .ret, Q, τ, σ, g, w, a, _, h, hI, hr, hn => wpIn_ret ⟨g, τ, σ, Ev.refl _ _, hI, hr, hn, rfl, h⟩
  | .rangeFunc .., Q, τ, σ, g, w, a, hd, h, hI, hr, hn => by simp [dstOk] at hd
  | .refuse _, Q, τ, σ, g, w, a, hd, h, hI, hr, hn => by simp [awp] at h

/-! ### Calls -/

def oneRes (P : Program) (τ : Env) (σ : AST) : ResultVar → (AV → Prop) → Prop
  | .tmp t, K => K (τ t)
  | .cell a t, K => loadW P σ t (τ a) K

def resList (P : Program) (τ : Env) (σ : AST) : List ResultVar → List AV → (List AV → Prop) → Prop
  | [], acc, K => K acc
  | r :: rs, acc, K => oneRes P τ σ r fun v => resList P τ σ rs (acc ++ [v]) K

def resW (P : Program) (rs : List ResultVar) (τ : Env) (σ : AST) (K : AV → Prop) : Prop := match rs with
  | [r] => oneRes P τ σ r K
  | rs => resList P τ σ rs [] fun vs => (∀ v ∈ vs, v.known = true) ∧ K (.tuple vs)

def bodyQ (P : Program) (fn : Func) (K : AV → AST → Prop) : Exit → Env → AST → Prop := fun e τ σ => match e with
  | .normal | .ret => resW P fn.results.toList τ σ fun v => K v σ
  | _ => False

def env0 (args : List AV) : Env := fun t => args.getD t .undef

theorem load_run (hI : Inv g σ w) {t : TypeId} {a : AV} {x : Value} {K : AV → Prop} (ha : relV g w a x) (h : loadW P σ t a K) :
    ∃ b o y v, x = .pointer (some ⟨b, o, none⟩) ∧ (loadVar t ⟨b, o, none⟩).run P w = .ok y w ∧ relV g w v y ∧ K v := by
  unfold loadW at h
  split at h
  · rename_i i p
    split at h
    · rename_i v hobj
      split at h
      · rename_i u hat
        obtain ⟨b, sh, o, hg, ho, rfl⟩ := relV_ptr ha
        obtain ⟨_, _, c, e, fr, hc, _, hr, hs⟩ := obj_cells hI hobj hg
        obtain ⟨cu, hcu, hcell, _⟩ := at_rel hr hat (hs ▸ ho)
        have hrd : rd w b o cu := ⟨c, e, fr, hc, fun j hj => by rw [← hcell j hj]; simp⟩
        obtain ⟨y, hy, hv⟩ := run_loadVar' h.1 hcu hrd
        exact ⟨b, o, y, u, rfl, hy, hv, h.2⟩
      · exact h.elim
    · exact h.elim
  · rename_i v
    obtain ⟨b, o, cv, rfl, hv, hr, _⟩ := relV_eptr ha
    obtain ⟨y, hy, hv'⟩ := run_loadVar' h.1 hv hr
    exact ⟨b, o, y, v, rfl, hy, hv', h.2⟩
  · exact h.elim

def resRun (tmps : Array Value) : ResultVar → Sem Value
  | .tmp t => pure (tmps.getD t Go.undef)
  | .cell a t => do loadVar t (← asAddr (tmps.getD a Go.undef))

theorem oneRes_run (hI : Inv g σ w) {τ : Env} {tmps : Array Value} (hr : relE g w τ tmps) {r : ResultVar} {K : AV → Prop} (h : oneRes P τ σ r K) : ∃ y v, (resRun tmps r).run P w = .ok y w ∧ relV g w v y ∧ K v := by
  cases r with
  | tmp t => exact ⟨_, _, rfl, hr t, h⟩
  | cell a t =>
    obtain ⟨b, o, y, v, hx, hrun, hv, hk⟩ := load_run hI (hr a) h
    exact ⟨y, v, by simp only [resRun, Sem.run_bind, hx, asAddr, Sem.run_pure, Result.andThen_ok, hrun], hv, hk⟩

theorem resList_run (hI : Inv g σ w) {τ : Env} {tmps : Array Value} (hr : relE g w τ tmps) : ∀ (rs : List ResultVar) (acc : List AV) (K : List AV → Prop), resList P τ σ rs acc K →
    ∃ ys vs, (rs.mapM (resRun tmps)).run P w = .ok ys w ∧ ys.length = rs.length ∧ relA g w vs ys ∧ K (acc ++ vs)
  | [], acc, K, h => ⟨[], [], by simp, rfl, ⟨rfl, fun i v x h => by simp at h⟩, by simpa [resList] using h⟩
  | r :: rs, acc, K, h => by
    simp only [resList] at h
    obtain ⟨y, v, hy, hv, hk⟩ := oneRes_run hI hr h
    obtain ⟨ys, vs, hys, hlen, hA, hk'⟩ := resList_run hI hr rs _ K hk
    refine ⟨y :: ys, v :: vs, by simp [List.mapM_cons, hy, hys], by simp [hlen], ⟨by simp [hA.1], fun i u x hu hx => ?_⟩, by simpa using hk'⟩
    cases i with
    | zero => simp at hu hx; subst hu hx; exact hv
    | succ i => simp at hu hx; exact hA.2 i u x hu hx

theorem results_eq (fn : Func) (tmps : Array Value) : results fn tmps = (do let vs ← fn.results.mapM (resRun tmps); pure (if h : vs.size = 1 then vs[0] else .tuple vs)) := by
  unfold results
  congr 1

theorem relVs_of : ∀ {vs : List AV} {ys : List Value}, relA g w vs ys → (∀ v ∈ vs, v.known = true) → relVs g w vs ys
  | [], ys, h, _ => by have := h.1; simp at this; have : ys = [] := List.eq_nil_of_length_eq_zero (by omega); subst this; simp [relVs]
  | v :: vs, [], h, _ => by have := h.1; simp at this
  | v :: vs, y :: ys, h, hk => by
    simp only [relVs]
    obtain ⟨h1, h2⟩ := relV_known (h.2 0 v y rfl rfl) (hk v (by simp))
    exact ⟨y, ys, rfl, h1, h2, relVs_of ⟨by have := h.1; simpa using this, fun i u x hu hx => h.2 (i + 1) u x (by simpa using hu) (by simpa using hx)⟩ fun u hu => hk u (by simp [hu])⟩

theorem resW_run (hI : Inv g σ w) {fn : Func} {τ : Env} {tmps : Array Value} (hr : relE g w τ tmps) {K : AV → Prop} (h : resW P fn.results.toList τ σ K) : ∃ y v, (results fn tmps).run P w = .ok y w ∧ relV g w v y ∧ K v := by
  rw [results_eq]
  rw [Array.mapM_eq_mapM_toList]
  unfold resW at h
  split at h
  · rename_i r hrs
    obtain ⟨y, v, hy, hv, hk⟩ := oneRes_run hI hr h
    exact ⟨y, v, by simp [hrs, List.mapM_cons, hy], hv, hk⟩
  · rename_i hne
    obtain ⟨ys, vs, hys, hlen, hA, hk⟩ := resList_run hI hr _ _ _ h
    simp only [List.nil_append] at hk
    have hl1 : ys.length ≠ 1 := by
      intro h1
      rw [h1] at hlen
      generalize fn.results.toList = rs at hlen hne
      match rs, hlen, hne with
      | [r], _, hne => exact hne r rfl
    refine ⟨.tuple ys.toArray, .tuple vs, ?_, .inr (.inl ⟨vs, ys.toArray, rfl, rfl, by simpa using relVs_of hA hk.1⟩), hk.2⟩
    simp only [Sem.run_bind, Sem.run_map, hys, Result.andThen_ok, Sem.run_pure]
    congr 1
    rw [dif_neg (by simpa using hl1)]

theorem env0_rel {args : List AV} {xs : Array Value} (h : relA g w args xs.toList) (k : Nat) : relE g w (env0 args) (xs ++ Array.replicate k Go.undef) := by
  intro t
  unfold env0
  by_cases ht : t < args.length
  · have ht' : t < xs.size := by have := h.1; simp at this; omega
    have h1 : (xs ++ Array.replicate k Go.undef).getD t Go.undef = xs[t] := by
      simp [Array.getD, Array.getElem_append_left ht']; omega
    rw [h1, List.getD_eq_getElem?_getD, List.getElem?_eq_getElem ht]
    exact h.2 t _ _ (List.getElem?_eq_getElem ht) (by simp [ht'])
  · rw [List.getD_eq_getElem?_getD, List.getElem?_eq_none (by omega)]
    exact .inl rfl

theorem tcalls_of {f : FuncId} {fn : Func} {c : Code} {args : List AV} {K : AV → AST → Prop} (hok : FnOk P f) (hf : P.funcs[f]? = some fn) (hb : fn.body = some c) (hd : dstOk fn.ntmps c = true) (hm : P.follows .mixedOrders = true) (hn : args.length ≤ fn.ntmps)
    (h : (∀ v ∈ args, lenOk v) → awp P c (bodyQ P fn K) (env0 args) σ) : TCalls P f args σ K := by
  refine ⟨hok, fun g w xs hI hA => ?_⟩
  have hlen : ∀ v ∈ args, lenOk v := by
    intro v hv
    obtain ⟨i, hi⟩ := List.mem_iff_getElem?.1 hv
    have hlt : i < xs.toList.length := by rw [← hA.1]; exact (List.getElem?_eq_some_iff.1 hi).1
    exact lenOk_of (hA.2 i v _ hi (List.getElem?_eq_getElem hlt))
  refine calls_of_wp hf hb ?_
  have hsz : xs.size = args.length := by have := hA.1; simp at this; omega
  have := awp_sound (r0 := none) (a := { tmps := xs ++ Array.replicate (fn.ntmps - xs.size) Go.undef, defers := [] }) hm c hd (h hlen) hI (env0_rel hA _) (by simp; omega)
  refine wp_mono (wpIn_wide.1 this) ?_
  rintro e a' w' ⟨g', τ', σ', hE, hI', hr', hn', hds, hq⟩
  have fin : resW P fn.results.toList τ' σ' (fun v => K v σ') → a'.defers = [] ∧ ∃ v, (results fn a'.tmps).run P w' = .ok v w' ∧ ∃ x g' v' σ', Ending.returned v = .returned x ∧ Ev g w g' w' ∧ Inv g' σ' w' ∧ relV g' w' v' x ∧ K v' σ' := by
    intro hq
    obtain ⟨y, v, hy, hv, hk⟩ := resW_run hI' hr' hq
    exact ⟨hds, y, hy, y, g', v, σ', rfl, hE, hI', hv, hk⟩
  cases e with
  | normal => exact fin hq
  | ret => exact fin hq
  | exit id => exact hq.elim
  | goto l => exact hq.elim
  | panic ch => exact hq.elim
  | outgrown => exact hq.elim

end Go.Aff

namespace Go.Aff

variable {P : Program} {σ : AST} {τ : Env} {ops : Array Oper} {K : AV → AST → Prop} {KV : AV → Prop} {KE : Env → AST → Prop} {Q : Exit → Env → AST → Prop}

theorem nr.{u} {α : Sort u} {a b : α} (h : a = b) : a = b := h

/-! ### Rest: what a rewriting must not enter yet -/
class Stop.{u} (α : Type u) where
  x : α
def Later [s : Stop Prop] : Prop := s.x
def Lam [s : Stop (AV → AST → Prop)] : AV → AST → Prop := s.x
def LamE [s : Stop (Env → AST → Prop)] : Env → AST → Prop := s.x
def LamA {α : Type} [s : Stop (α → Prop)] : α → Prop := s.x
def At (K : AV → AST → Prop) (σ : AST) : AV → Prop := fun v => K v σ
def AtS (K : AV → AST → Prop) (v : AV) : AST → Prop := fun σ => K v σ
theorem lam_app {F : AV → AST → Prop} {v : AV} {σ : AST} : @Lam ⟨F⟩ v σ = F v σ := nr rfl
theorem lamE_app {F : Env → AST → Prop} {τ : Env} {σ : AST} : @LamE ⟨F⟩ τ σ = F τ σ := nr rfl
theorem lamA_app {α : Type} {F : α → Prop} {v : α} : @LamA _ ⟨F⟩ v = F v := nr rfl
theorem at_app {K : AV → AST → Prop} {v : AV} {σ : AST} : At K σ v = K v σ := nr rfl
theorem atS_app {K : AV → AST → Prop} {v : AV} {σ : AST} : AtS K v σ = K v σ := nr rfl
theorem later_intro {T : Prop} (h : T) : @Later ⟨T⟩ := h
theorem and_later {T : Prop} : (True ∧ @Later ⟨T⟩) = T := by simp [Later]
theorem arr_later {T : Prop} : (True → @Later ⟨T⟩) = T := by simp [Later]
theorem side_later {A T : Prop} (ha : A) (h : T) : A ∧ @Later ⟨T⟩ := ⟨ha, h⟩
theorem arr_intro {A T : Prop} (h : A → T) : A → @Later ⟨T⟩ := h

/-! ### Control -/
theorem awp_seq_k {a b : Code} (h : ∀ K : Env → AST → Prop, (∀ τ σ, awp P b Q τ σ → K τ σ) → awp P a (thenQ K Q) τ σ) : awp P (.seq a b) Q τ σ :=
  h _ fun _ _ h => h

theorem awp_draw {id : Nat} (ord : List Nat) (ho : ordOk P ops ord = true) (h : (∀ t, lenOk (τ t)) → awpD P ops ord [] τ σ (Q .normal)) : awp P (.region id ops true) Q τ σ := .inl ⟨ord, ho, h⟩
theorem awp_drawTree {id : Nat} (T : Tr) (ho : trOk P ops T = true) (h : (∀ t, lenOk (τ t)) → awpT P ops T [] τ σ (Q .normal)) : awp P (.region id ops true) Q τ σ := .inr ⟨T, ho, h⟩
/-! ### Types, told by functions -/
def isIntT (P : Program) (t : TypeId) : Bool := match P.underlying t with | some (.int _) => true | _ => false
def kindT (P : Program) (t : TypeId) : IntKind := match P.underlying t with | some (.int k) => k | _ => .i64
def isSliceT (P : Program) (t : TypeId) : Bool := match P.underlying t with | some (.slice _) => true | _ => false
def elemT (P : Program) (t : TypeId) : TypeId := match P.underlying t with | some (.slice e) => e | some (.array _ e) => e | _ => 0
def isStructT (P : Program) (t : TypeId) : Bool := match P.underlying t with | some (.struct _) => true | _ => false
theorem isIntT_iff {t : TypeId} (h : isIntT P t = true) : P.underlying t = some (.int (kindT P t)) := by
  unfold isIntT at h; unfold kindT; split at h <;> simp_all
theorem isSliceT_iff {t : TypeId} (h : isSliceT P t = true) : P.underlying t = some (.slice (elemT P t)) := by
  unfold isSliceT at h; unfold elemT; split at h <;> simp_all
theorem isStructT_iff {t : TypeId} (h : isStructT P t = true) : ∃ fs, P.underlying t = some (.struct fs) := by
  unfold isStructT at h; split at h <;> simp_all

/-! ### Rewriting, head first -/
theorem seq_nil : awpSeq P ops [] τ σ KE = KE τ σ := nr rfl
theorem seq_cons {o : Oper} {r : List Oper} : awpSeq P ops (o :: r) τ σ KE = stepW P ops o τ σ (@Lam ⟨fun v σ' => awpSeq P ops r (τ.putO o.dst v) σ' KE⟩) := nr rfl

theorem step_plain {dst : Option Nat} {op : Op} {t : TypeId} {pos : String} {after : Array Edge} : stepW P ops ⟨dst, op, t, pos, after, none⟩ τ σ K = opW P (ev τ) ⟨dst, op, t, pos, after, none⟩ σ K := nr rfl

def guardW (d : Option Nat) (τ : Env) (want : Bool) (T E : Prop) : Prop := match d with
  | none => False
  | some d => match τ d with
    | .bool b => (b = want → T) ∧ (b = !want → E)
    | .tuple [] => E
    | _ => False

def gdst (ops : Array Oper) (j : Nat) : Option Nat := (ops[j]?).bind (·.dst)
theorem gdst_zero {o : Oper} {l : List Oper} : gdst ⟨o :: l⟩ 0 = o.dst := nr rfl
theorem gdst_succ {o : Oper} {l : List Oper} {n : Nat} : gdst ⟨o :: l⟩ (n + 1) = gdst ⟨l⟩ n := by simp [gdst]
theorem step_guard {dst : Option Nat} {op : Op} {t : TypeId} {pos : String} {after : Array Edge} {j : Nat} {want : Bool} :
    stepW P ops ⟨dst, op, t, pos, after, some (j, want)⟩ τ σ K = guardW (gdst ops j) τ want (@Later ⟨opW P (ev τ) ⟨dst, op, t, pos, after, some (j, want)⟩ σ K⟩) (@Later ⟨K (.tuple []) σ⟩) := by
  unfold stepW guardW gdst Later; rfl

def guardV (v : AV) (want : Bool) (T E : Prop) : Prop := match v with
  | .bool b => (b = want → T) ∧ (b = !want → E)
  | .tuple [] => E
  | _ => False

theorem guardW_some {d : Nat} {want : Bool} {T E : Prop} : guardW (some d) τ want T E = guardV (τ d) want T E := nr rfl
theorem guardV_skip {want : Bool} {T E : Prop} : guardV (.tuple []) want T (@Later ⟨E⟩) = E := by simp [guardV, Later]
theorem guardV_tt {T E : Prop} : guardV (.bool true) true (@Later ⟨T⟩) E = T := by simp [guardV, Later]
theorem guardV_tf {T E : Prop} : guardV (.bool true) false T (@Later ⟨E⟩) = E := by simp [guardV, Later]
theorem guardV_ft {T E : Prop} : guardV (.bool false) true T (@Later ⟨E⟩) = E := by simp [guardV, Later]
theorem guardV_ff {T E : Prop} : guardV (.bool false) false (@Later ⟨T⟩) E = T := by simp [guardV, Later]

theorem boolW_t {T E : Prop} : boolW (.bool true) (@Later ⟨T⟩) E = T := by simp [boolW, Later]
theorem boolW_f {T E : Prop} : boolW (.bool false) T (@Later ⟨E⟩) = E := by simp [boolW, Later]

section
variable {dst : Option Nat} {ty : TypeId} {pos : String} {after : Array Edge} {gd : Option (Nat × Bool)} {ρ : Operand → AV}
theorem op_move {x : Operand} : opW P ρ ⟨dst, .move x, ty, pos, after, gd⟩ σ K = K (ρ x) σ := nr rfl
theorem op_assign {x : Operand} : opW P ρ ⟨dst, .assign x, ty, pos, after, gd⟩ σ K = K (ρ x) σ := nr rfl
theorem op_pick {c a b : Operand} : opW P ρ ⟨dst, .pick c a b, ty, pos, after, gd⟩ σ K = boolW (ρ c) (@Later ⟨K (ρ a) σ⟩) (@Later ⟨K (ρ b) σ⟩) := nr rfl
theorem op_alloc {e : TypeId} : opW P ρ ⟨dst, .alloc e, ty, pos, after, gd⟩ σ K = (ZeroOf P e (zeroA P 12 e) ∧ @Later ⟨K (.ptr (some (σ.objs.length, []))) (σ.push (.cells (zeroA P 12 e)))⟩) := nr rfl
theorem op_box {e : TypeId} {x : Operand} : opW P ρ ⟨dst, .box e x, ty, pos, after, gd⟩ σ K = ((ρ x).known = true ∧ @Later ⟨K (.ptr (some (σ.objs.length, []))) (σ.push (.cells (ρ x)))⟩) := nr rfl
theorem op_build {t : TypeId} {ps : Array (Nat × Operand)} : opW P ρ ⟨dst, .build t ps, ty, pos, after, gd⟩ σ K =
    (ZeroOf P t (zeroA P 12 t) ∧ (zeroA P 12 t).isAgg = true ∧ Built P t ∧ fillW P t (ps.toList.map fun p => (p.1, ρ p.2)) (zeroA P 12 t) (At K σ)) := nr rfl
theorem op_buildSlice {t n : Nat} {ps : Array (Nat × Operand)} : opW P ρ ⟨dst, .buildSlice t n ps, ty, pos, after, gd⟩ σ K = buildSliceW P t n (ps.toList.map fun p => (p.1, ρ p.2)) (At K σ) := nr rfl
theorem op_load {t : TypeId} {a : Operand} : opW P ρ ⟨dst, .load t a, ty, pos, after, gd⟩ σ K = loadW P σ t (ρ a) (At K σ) := nr rfl
theorem op_store {t : TypeId} {a x : Operand} : opW P ρ ⟨dst, .store t a x, ty, pos, after, gd⟩ σ K = storeW P σ t (ρ a) (ρ x) (AtS K .undef) := nr rfl
def nilCheckW (v : AV) (K : AV → Prop) : Prop := match v with
  | .ptr (some q) => K (.ptr (some q))
  | .eptr v => K (.eptr v)
  | .fn (.func f) a b => K (.fn (.func f) a b)
  | _ => False
theorem op_nilCheck {x : Operand} : opW P ρ ⟨dst, .nilCheck x, ty, pos, after, gd⟩ σ K = nilCheckW (ρ x) (At K σ) := nr rfl
theorem op_binOp {op : BinOp} {t yt : TypeId} {x y : Operand} : opW P ρ ⟨dst, .binOp op t x y yt, ty, pos, after, gd⟩ σ K = binW P op t (ρ x) (ρ y) (At K σ) := nr rfl
theorem op_unOp {op : UnOp} {t : TypeId} {x : Operand} : opW P ρ ⟨dst, .unOp op t x, ty, pos, after, gd⟩ σ K = unW op (ρ x) (At K σ) := nr rfl
theorem op_convert {s d : TypeId} {x : Operand} : opW P ρ ⟨dst, .convert s d x, ty, pos, after, gd⟩ σ K = convW P s d (ρ x) σ K := nr rfl
theorem op_makeInterface {t : TypeId} {x : Operand} : opW P ρ ⟨dst, .makeInterface t x, ty, pos, after, gd⟩ σ K = ((∃ d, P.underlying t = some d ∧ ∀ ms, d ≠ .interface ms) ∧ (ρ x).known = true ∧ @Later ⟨K (.iface t (ρ x)) σ⟩) := nr rfl
theorem op_makeFunc {f : Fn} {first cap : Array Operand} : opW P ρ ⟨dst, .makeFunc f first cap, ty, pos, after, gd⟩ σ K =
    ((∀ x ∈ first.toList ++ cap.toList, (ρ x).known = true) ∧ @Later ⟨K (.fn f (first.toList.map ρ) (cap.toList.map ρ)) σ⟩) := nr rfl
theorem op_slice {t : TypeId} {x : Operand} {lo hi mx : Option Operand} : opW P ρ ⟨dst, .slice t x lo hi mx, ty, pos, after, gd⟩ σ K = sliceW P t (ρ x) (lo.map ρ) (hi.map ρ) (mx.map ρ) (At K σ) := nr rfl
theorem op_fieldAddr {t : TypeId} {x : Operand} {i : Nat} (h : isStructT P t = true) : opW P ρ ⟨dst, .fieldAddr t x i, ty, pos, after, gd⟩ σ K = fieldAddrW P σ t (ρ x) i (At K σ) := by
  simp only [opW, isStructT_iff h, true_and]; rfl
theorem op_field {t : TypeId} {x : Operand} {i : Nat} (h : isStructT P t = true) : opW P ρ ⟨dst, .field t x i, ty, pos, after, gd⟩ σ K = fieldW P t (ρ x) i (At K σ) := by
  simp only [opW, isStructT_iff h, true_and]; rfl
theorem op_indexAddr {t : TypeId} {x i : Operand} : opW P ρ ⟨dst, .indexAddr t x i, ty, pos, after, gd⟩ σ K = indexAddrW P σ t (ρ x) (ρ i) (At K σ) := nr rfl
theorem op_index {t : TypeId} {x i : Operand} : opW P ρ ⟨dst, .index t x i, ty, pos, after, gd⟩ σ K = indexW P t (ρ x) (ρ i) (At K σ) := nr rfl
def extractW (v : AV) (i : Nat) (K : AV → Prop) : Prop := match v with
  | .tuple vs => match vs[i]? with
    | some v => K v
    | none => False
  | _ => False
theorem op_extract {x : Operand} {i : Nat} : opW P ρ ⟨dst, .extract x i, ty, pos, after, gd⟩ σ K = extractW (ρ x) i (At K σ) := nr rfl
theorem op_append {s x : Operand} {ts : Array TypeId} : opW P ρ ⟨dst, .call ⟨.builtin .append, #[s, x], ts⟩, ty, pos, after, gd⟩ σ K = appendW P ts (ρ s) (ρ x) σ K := nr rfl
theorem op_len {x : Operand} {ts : Array TypeId} : opW P ρ ⟨dst, .call ⟨.builtin .len, #[x], ts⟩, ty, pos, after, gd⟩ σ K = lenW P σ ts (ρ x) (At K σ) := nr rfl
theorem op_max {xs : Array Operand} {ts : Array TypeId} : opW P ρ ⟨dst, .call ⟨.builtin .max, xs, ts⟩, ty, pos, after, gd⟩ σ K = mmW true (xs.toList.map ρ) (At K σ) := nr rfl
theorem op_min {xs : Array Operand} {ts : Array TypeId} : opW P ρ ⟨dst, .call ⟨.builtin .min, xs, ts⟩, ty, pos, after, gd⟩ σ K = mmW false (xs.toList.map ρ) (At K σ) := nr rfl
def callV (P : Program) (f : AV) (args : List AV) (σ : AST) (K : AV → AST → Prop) : Prop := match f with
  | .fn (.func k) first cap => TCalls P k (first ++ args ++ cap) σ K
  | .fn (.yield l) [] [] => YCalls P l args σ K
  | _ => False
theorem op_call {f : Operand} {xs : Array Operand} {ts : Array TypeId} : opW P ρ ⟨dst, .call ⟨.value f, xs, ts⟩, ty, pos, after, gd⟩ σ K = callV P (ρ f) (xs.toList.map ρ) σ K := nr rfl
end

theorem callV_yield {l : Nat} {args : List AV} : callV P (.fn (.yield l) [] []) args σ K = YCalls P l args σ K := nr rfl
theorem callV_fn {k : FuncId} {first cap args : List AV} : callV P (.fn (.func k) first cap) args σ K = TCalls P k (first ++ args ++ cap) σ K := nr rfl


/-! ### Values of slots -/
theorem ev_tmp {t : Nat} : ev τ (.tmp t) = τ t := nr rfl
theorem ev_const {v : Value} : ev τ (.const v) = absV v := nr rfl
theorem ev_func {f : FuncId} : ev τ (.func f) = .fn (.func f) [] [] := nr rfl
theorem putO_some {d : Nat} {v : AV} : τ.putO (some d) v = τ.put d v := nr rfl
theorem putO_none {v : AV} : τ.putO none v = τ := nr rfl
theorem put_at {d t : Nat} {v : AV} : (τ.put d v) t = if t = d then v else τ t := nr rfl
theorem absV_int {k : IntKind} {n : Int} : absV (.int k n) = .int k n := nr rfl
theorem absV_bool {b : Bool} : absV (.bool b) = .bool b := nr rfl
theorem absV_str {l : List UInt8} (h : l.length ≤ 1000000) : absV (.string ⟨l.toArray⟩) = .str l := by
  simp only [absV]; rw [if_pos (by unfold maxL; simpa using Nat.le_trans h (by decide))]
theorem absV_nilptr : absV (.pointer none) = .ptr none := nr rfl
theorem absV_nilslice : absV (.slice none 0 0) = .slice .full [] := nr rfl
theorem absV_nilmap : absV (.map none) = .mp none := nr rfl
theorem absV_nilfn : absV .nilFunc = .nilFn := nr rfl
theorem absV_niliface : absV .nilIface = .nilIface := nr rfl

end Go.Aff

namespace Go.Aff

variable {P : Program} {σ : AST} {K : AV → AST → Prop} {KV : AV → Prop}

theorem bin_int {op : BinOp} {t : TypeId} {k : IntKind} {a b : Int} : binW P op t (.int k a) (.int k b) KV = intW op k a b KV := by simp [binW]
theorem bin_str {op : BinOp} {t : TypeId} {a b : List UInt8} : binW P op t (.str a) (.str b) KV = strW op a b KV := nr rfl
theorem bin_bool_eq {t : TypeId} {a b : Bool} (hu : P.underlying t = some .bool) : binW P .eql t (.bool a) (.bool b) KV = KV (.bool (a == b)) := by
  simp [binW, eqW, eqA, hu]
theorem bin_bool_ne {t : TypeId} {a b : Bool} (hu : P.underlying t = some .bool) : binW P .neq t (.bool a) (.bool b) KV = KV (.bool !(a == b)) := by
  simp [binW, eqW, eqA, hu]
theorem int_add {k : IntKind} {a b : Int} : intW .add k a b KV = KV (.int k (k.wrap (a + b))) := nr rfl
theorem int_sub {k : IntKind} {a b : Int} : intW .sub k a b KV = KV (.int k (k.wrap (a - b))) := nr rfl
theorem int_mul {k : IntKind} {a b : Int} : intW .mul k a b KV = KV (.int k (k.wrap (a * b))) := nr rfl
theorem int_quo {k : IntKind} {a b : Int} : intW .quo k a b KV = (b ≠ 0 ∧ @Later ⟨KV (.int k (k.wrap (a.tdiv b)))⟩) := nr rfl
theorem int_rem {k : IntKind} {a b : Int} : intW .rem k a b KV = (b ≠ 0 ∧ @Later ⟨KV (.int k (a.tmod b))⟩) := nr rfl
theorem int_eql {k : IntKind} {a b : Int} : intW .eql k a b KV = KV (.bool (a == b)) := nr rfl
theorem int_neq {k : IntKind} {a b : Int} : intW .neq k a b KV = KV (.bool (a != b)) := nr rfl
theorem int_lss {k : IntKind} {a b : Int} : intW .lss k a b KV = KV (.bool (decide (a < b))) := nr rfl
theorem int_leq {k : IntKind} {a b : Int} : intW .leq k a b KV = KV (.bool (decide (a ≤ b))) := nr rfl
theorem int_gtr {k : IntKind} {a b : Int} : intW .gtr k a b KV = KV (.bool (decide (b < a))) := nr rfl
theorem int_geq {k : IntKind} {a b : Int} : intW .geq k a b KV = KV (.bool (decide (b ≤ a))) := nr rfl
theorem str_add {a b : List UInt8} : strW .add a b KV = (a.length + b.length ≤ maxL ∧ @Later ⟨KV (.str (a ++ b))⟩) := nr rfl
theorem str_eql {a b : List UInt8} : strW .eql a b KV = KV (.bool (a == b)) := nr rfl
theorem str_neq {a b : List UInt8} : strW .neq a b KV = KV (.bool !(a == b)) := nr rfl
theorem str_lss {a b : List UInt8} : strW .lss a b KV = KV (.bool (Op.bytesLess a b)) := nr rfl
theorem str_leq {a b : List UInt8} : strW .leq a b KV = KV (.bool (Op.bytesLess a b || a == b)) := nr rfl
theorem str_gtr {a b : List UInt8} : strW .gtr a b KV = KV (.bool !(Op.bytesLess a b || a == b)) := nr rfl
theorem str_geq {a b : List UInt8} : strW .geq a b KV = KV (.bool !(Op.bytesLess a b)) := nr rfl
theorem un_not {b : Bool} : unW .not (.bool b) KV = KV (.bool !b) := nr rfl
theorem un_neg {k : IntKind} {n : Int} : unW .neg (.int k n) KV = KV (.int k (k.wrap (0 - n))) := nr rfl

theorem len_str {t : TypeId} {s : List UInt8} (hu : P.underlying t = some .string) : lenW P σ ⟨[t]⟩ (.str s) KV = (s.length ≤ maxL → @Later ⟨KV (.int .i64 s.length)⟩) := by
  simp [lenW, hu, Later]
theorem len_mpnil {t k e : TypeId} (hu : P.underlying t = some (.map k e)) : lenW P σ ⟨[t]⟩ (.mp none) KV = KV (.int .i64 0) := by
  simp [lenW, hu]
theorem len_mp {t k e : TypeId} {i ck : Nat} {es : List (Nat × AV × AV)} (hu : P.underlying t = some (.map k e)) (ho : σ.objs[i]? = some (.map es ck)) : lenW P σ ⟨[t]⟩ (.mp (some i)) KV = (es.length ≤ maxL ∧ @Later ⟨KV (.int .i64 es.length)⟩) := by
  simp [lenW, hu, ho, Later]
theorem len_arr {t : TypeId} (hu : isSliceT P t = true) {i n : Nat} {p : List Nat} : lenW P σ ⟨[t]⟩ (.arr i p n) KV = (n ≤ maxL → @Later ⟨KV (.int .i64 n)⟩) := by
  simp [lenW, isSliceT_iff hu, Later]
theorem len_slice {t : TypeId} (hu : isSliceT P t = true) {tk : Tk} {xs : List AV} : lenW P σ ⟨[t]⟩ (.slice tk xs) KV = (xs.length ≤ maxL → @Later ⟨KV (.int .i64 xs.length)⟩) := by
  simp [lenW, isSliceT_iff hu, Later]
theorem indexAddr_slice {t : TypeId} (hu : isSliceT P t = true) {tk : Tk} {xs : List AV} {k : IntKind} {n : Int} :
    indexAddrW P σ t (.slice tk xs) (.int k n) KV = nthW xs n (@LamA _ ⟨fun x => fits P (elemT P t) x ∧ 0 < x.size ∧ @Later ⟨KV (.eptr x)⟩⟩) := by
  simp [indexAddrW, isSliceT_iff hu, LamA, Later]
theorem load_eptr {t : TypeId} {v : AV} : loadW P σ t (.eptr v) KV = (fits P t v ∧ @Later ⟨KV v⟩) := nr rfl
theorem nth_map {α β : Type} {f : α → β} {l : List α} {n : Int} {K : β → Prop} : nthW (l.map f) n K = nthW l n (@LamA _ ⟨fun x => K (f x)⟩) := by
  show _ = nthW l n fun x => K (f x)
  simp only [nthW, List.length_map, List.getElem?_map, Option.map_eq_some_iff]
  simp
theorem fits_leaf {t : TypeId} (ha : aggT P t = some false) (hc : P.cellsOf t = 1) {v : AV} : fits P t v = (v.isAgg = false ∧ v.size = 1) := by
  simp only [fits, ha, hc, Option.some.injEq, eq_iff_iff]
  constructor
  · rintro ⟨h1, h2⟩; exact ⟨h1.symm, h2.symm⟩
  · rintro ⟨h1, h2⟩; exact ⟨h1.symm, h2.symm⟩
theorem isAgg_str {s : List UInt8} : (AV.str s).isAgg = false := nr rfl
theorem isAgg_int {k : IntKind} {n : Int} : (AV.int k n).isAgg = false := nr rfl
theorem isAgg_bool {b : Bool} : (AV.bool b).isAgg = false := nr rfl
theorem isAgg_slice {tk : Tk} {xs : List AV} : (AV.slice tk xs).isAgg = false := nr rfl
theorem isAgg_ptr {p : Option (Nat × List Nat)} : (AV.ptr p).isAgg = false := nr rfl
theorem isAgg_fn {f : Fn} {a b : List AV} : (AV.fn f a b).isAgg = false := nr rfl
theorem isAgg_mp {r : Option Nat} : (AV.mp r).isAgg = false := nr rfl
theorem isAgg_agg {ps : List AV} : (AV.agg ps).isAgg = true := nr rfl
theorem isAgg_dig {d : Dig} : (AV.dig d).isAgg = true := nr rfl
theorem size_str {s : List UInt8} : (AV.str s).size = 1 := by simp [AV.size]
theorem size_int {k : IntKind} {n : Int} : (AV.int k n).size = 1 := by simp [AV.size]
theorem size_bool {b : Bool} : (AV.bool b).size = 1 := by simp [AV.size]
theorem size_slice {tk : Tk} {xs : List AV} : (AV.slice tk xs).size = 1 := by simp [AV.size]
theorem size_ptr {p : Option (Nat × List Nat)} : (AV.ptr p).size = 1 := by simp [AV.size]
theorem size_fn {f : Fn} {a b : List AV} : (AV.fn f a b).size = 1 := by simp [AV.size]
theorem size_mp {r : Option Nat} : (AV.mp r).size = 1 := by simp [AV.size]
theorem size_agg {ps : List AV} : (AV.agg ps).size = AV.sizes ps := by simp [AV.size]
theorem size_dig {d : Dig} : (AV.dig d).size = 32 := by simp [AV.size]
theorem sizes_nil : AV.sizes [] = 0 := by simp [AV.sizes]
theorem sizes_cons {p : AV} {ps : List AV} : AV.sizes (p :: ps) = p.size + AV.sizes ps := by simp [AV.sizes]
theorem bool_tt : (true = true) = True := by simp
theorem bool_tf : (true = false) = False := by simp
theorem bool_ft : (false = true) = False := by simp
theorem bool_ff : (false = false) = True := by simp
theorem true_arr {p : Prop} : (True → p) = p := by simp
theorem false_arr {p : Prop} : (False → p) = True := by simp
theorem toNat_cast {n : Nat} : ((n : Int)).toNat = n := by simp

theorem slice_str {t : TypeId} {s : List UInt8} {lo hi : Option AV} (hu : P.underlying t = some .string) :
    sliceW P t (.str s) lo hi none KV = bndW lo 0 fun l => bndW hi s.length fun h => l ≤ h ∧ h ≤ s.length ∧ @Later ⟨KV (.str ((s.take h).drop l))⟩ := by
  simp [sliceW, hu, Later]
theorem bnd_none {d : Nat} {KN : Nat → Prop} : bndW none d KN = KN d := nr rfl
theorem bnd_some {d : Nat} {KN : Nat → Prop} {k : IntKind} {n : Int} : bndW (some (.int k n)) d KN = (0 ≤ n ∧ @Later ⟨KN n.toNat⟩) := nr rfl
theorem index_str {t : TypeId} {s : List UInt8} {k : IntKind} {n : Int} (hu : P.underlying t = some .string) : indexW P t (.str s) (.int k n) KV = nthW s n (@LamA _ ⟨fun b => KV (.int .u8 b.toNat)⟩) := by
  simp [indexW, hu, LamA]
theorem conv_int {s d : TypeId} {k' : IntKind} {n : Int} (hd : isIntT P d = true) (hs : isIntT P s = true) : convW P s d (.int k' n) σ K = K (.int (kindT P d) ((kindT P d).wrap n)) σ := by
  simp [convW, isIntT_iff hd, isIntT_iff hs]
theorem conv_str {s d : TypeId} {l : List UInt8} (hd : P.underlying d = some .string) (hs : P.underlying s = some .string) : convW P s d (.str l) σ K = K (.str l) σ := by
  simp [convW, hd, hs]

/-! ### Results -/
theorem one_tmp {t : Nat} {τ : Env} : oneRes P τ σ (.tmp t) KV = KV (τ t) := nr rfl

/-! ### Exits -/
theorem thenQ_normal {KE : Env → AST → Prop} {Q : Exit → Env → AST → Prop} : thenQ KE Q .normal = KE := nr rfl
theorem thenQ_ret {KE : Env → AST → Prop} {Q : Exit → Env → AST → Prop} : thenQ KE Q .ret = Q .ret := nr rfl
theorem thenQ_exit {KE : Env → AST → Prop} {Q : Exit → Env → AST → Prop} {id : Nat} : thenQ KE Q (.exit id) = Q (.exit id) := nr rfl
theorem blockQ_normal {id : Nat} {Q : Exit → Env → AST → Prop} : blockQ id Q .normal = Q .normal := nr rfl
theorem blockQ_ret {id : Nat} {Q : Exit → Env → AST → Prop} : blockQ id Q .ret = Q .ret := nr rfl
theorem blockQ_exit {id : Nat} {Q : Exit → Env → AST → Prop} : blockQ id Q (.exit id) = Q .normal := by funext τ σ; simp [blockQ]
def endQ (P : Program) (rs : List ResultVar) (K : AV → AST → Prop) : Exit → Env → AST → Prop
  | .normal, τ, σ | .ret, τ, σ => resW P rs τ σ fun v => K v σ
  | _, _, _ => False
theorem endQ_normal {rs : List ResultVar} {τ : Env} : endQ P rs K .normal τ σ = resW P rs τ σ (At K σ) := nr rfl
theorem endQ_ret {rs : List ResultVar} {τ : Env} : endQ P rs K .ret τ σ = resW P rs τ σ (At K σ) := nr rfl
theorem res_one' {r : ResultVar} {τ : Env} : resW P [r] τ σ KV = oneRes P τ σ r KV := nr rfl

theorem awp_seq {a b : Code} {Q : Exit → Env → AST → Prop} {τ : Env} : awp P (.seq a b) Q τ σ = awp P a (thenQ (@LamE ⟨fun τ σ => awp P b Q τ σ⟩) Q) τ σ := nr rfl
theorem awp_region' {id : Nat} {l : List Oper} {Q : Exit → Env → AST → Prop} {τ : Env} : awp P (.region id ⟨l⟩ false) Q τ σ = awpSeq P ⟨l⟩ l τ σ (Q .normal) := nr rfl
theorem awp_cond' {c : Operand} {a b : Code} {Q : Exit → Env → AST → Prop} {τ : Env} : awp P (.cond c a b) Q τ σ = boolW (ev τ c) (@Later ⟨awp P a Q τ σ⟩) (@Later ⟨awp P b Q τ σ⟩) := nr rfl
theorem awp_block' {id : Nat} {c : Code} {Q : Exit → Env → AST → Prop} {τ : Env} : awp P (.block id c) Q τ σ = awp P c (blockQ id Q) τ σ := nr rfl
theorem awp_scope' {c : Code} {Q : Exit → Env → AST → Prop} {τ : Env} : awp P (.scope c) Q τ σ = awp P c (noGotoQ Q) τ σ := nr rfl
theorem awp_label' {l : Nat} {Q : Exit → Env → AST → Prop} {τ : Env} : awp P (.label l) Q τ σ = Q .normal τ σ := nr rfl
theorem noGotoQ_normal {Q : Exit → Env → AST → Prop} : noGotoQ Q .normal = Q .normal := nr rfl
theorem noGotoQ_ret {Q : Exit → Env → AST → Prop} : noGotoQ Q .ret = Q .ret := nr rfl
theorem noGotoQ_exit {id : Nat} {Q : Exit → Env → AST → Prop} : noGotoQ Q (.exit id) = Q (.exit id) := nr rfl
theorem blockQ_exit2 {id j : Nat} {Q : Exit → Env → AST → Prop} : blockQ id Q (.exit j) = if j = id then Q .normal else Q (.exit j) := by
  funext τ σ; simp only [blockQ]; split <;> rfl
theorem awp_skip' {Q : Exit → Env → AST → Prop} {τ : Env} : awp P .skip Q τ σ = Q .normal τ σ := nr rfl
theorem awp_ret' {Q : Exit → Env → AST → Prop} {τ : Env} : awp P .ret Q τ σ = Q .ret τ σ := nr rfl
theorem awp_exit' {id : Nat} {Q : Exit → Env → AST → Prop} {τ : Env} : awp P (.exit id) Q τ σ = Q (.exit id) τ σ := nr rfl

theorem env_zero {a : AV} {l : List AV} : env0 (a :: l) 0 = a := nr rfl
theorem env_succ {a : AV} {l : List AV} {n : Nat} : env0 (a :: l) (n + 1) = env0 l n := nr rfl
theorem env_nil {n : Nat} : env0 [] n = .undef := by cases n <;> rfl

theorem awp_loop_of {α : Type} {c : Code} {Q : Exit → Env → AST → Prop} {τ : Env} (S : α → Env → AST → Prop) (μ : α → Nat) (x0 : α) (h0 : S x0 τ σ)
    (h : ∀ x τ σ, S x τ σ → awp P c (thenQ (@LamE ⟨fun τ' σ' => ∃ m, m < μ x ∧ ∃ x', S x' τ' σ' ∧ μ x' = m⟩) Q) τ σ) : awp P (.loop c) Q τ σ :=
  ⟨fun n τ σ => ∃ x, S x τ σ ∧ μ x = n, μ x0, ⟨x0, h0, rfl⟩, by rintro n τ σ ⟨x, hx, rfl⟩; exact h x τ σ hx⟩

theorem guardV_split {b want : Bool} {T E : Prop} (ht : b = want → T) (he : b = !want → E) : guardV (.bool b) want (@Later ⟨T⟩) (@Later ⟨E⟩) := ⟨ht, he⟩
theorem boolW_split {b : Bool} {T E : Prop} (ht : b = true → T) (he : b = false → E) : boolW (.bool b) (@Later ⟨T⟩) (@Later ⟨E⟩) := ⟨ht, he⟩
theorem tcalls_walk {f : FuncId} (fn : Func) (c : Code) (rs : List ResultVar) {args : List AV} (hf : P.funcs[f]? = some fn) (hb : fn.body = some c) (hnm : (fn.name == "runtime.NumGoroutine") = false) (hd : dstOk fn.ntmps c = true) (hm : P.follows .mixedOrders = true)
    (hn : args.length ≤ fn.ntmps) (hr : fn.results.toList = rs) (h : (∀ v ∈ args, lenOk v) → awp P c (endQ P rs K) (env0 args) σ) : TCalls P f args σ K := by
  refine tcalls_of ⟨fn, hf, hnm, by rw [hb]; rfl⟩ hf hb hd hm hn fun hl => ?_
  have := h hl
  rw [← hr] at this
  have he : endQ P fn.results.toList K = bodyQ P fn K := by funext e τ σ; cases e <;> rfl
  rwa [he] at this

attribute [go_sem high] and_later arr_later
attribute [go_sem] lam_app lamE_app lamA_app at_app atS_app
attribute [go_sem ↓] bnd_none bnd_some awp_seq awp_region' awp_cond' awp_block' awp_skip' awp_ret' awp_exit' seq_cons seq_nil step_plain step_guard gdst_zero gdst_succ guardW_some guardV_skip guardV_tt guardV_tf guardV_ft guardV_ff
attribute [go_sem ↓] op_move op_assign op_pick op_alloc op_box op_build op_buildSlice op_load op_store op_nilCheck op_binOp op_unOp op_convert op_makeInterface op_makeFunc op_slice op_fieldAddr op_field op_indexAddr op_index op_extract op_append op_len op_max op_min op_call
attribute [go_sem ↓] awp_scope' awp_label' noGotoQ_normal noGotoQ_ret noGotoQ_exit thenQ_normal thenQ_ret thenQ_exit blockQ_normal blockQ_ret blockQ_exit endQ_normal endQ_ret res_one' one_tmp
attribute [go_sem] ev_tmp ev_const ev_func putO_some putO_none put_at env_zero env_succ env_nil absV_int absV_bool absV_str absV_nilptr absV_nilslice absV_nilmap absV_nilfn absV_niliface boolW_t boolW_f Bool.not_true Bool.not_false
attribute [go_sem] bin_int bin_str int_add int_sub int_mul int_quo int_rem int_eql int_neq int_lss int_leq int_gtr int_geq str_add str_eql str_neq str_lss str_leq str_gtr str_geq un_not un_neg callV_fn callV_yield bin_bool_eq bin_bool_ne len_str len_slice len_arr indexAddr_slice isIntT kindT isSliceT elemT isStructT slice_str index_str conv_int conv_str load_eptr nth_map isAgg_str isAgg_int isAgg_bool isAgg_slice isAgg_ptr isAgg_fn isAgg_mp isAgg_agg isAgg_dig size_str size_int size_bool size_slice size_ptr size_fn size_mp size_agg size_dig sizes_nil sizes_cons bool_tt bool_tf bool_ft bool_ff true_arr false_arr toNat_cast Option.map_some Option.map_none List.drop_zero true_and and_true Nat.zero_le reduceIte Nat.reduceEqDiff Int.reduceToNat Int.reduceLE Nat.reduceLT Nat.reduceAdd
end Go.Aff

