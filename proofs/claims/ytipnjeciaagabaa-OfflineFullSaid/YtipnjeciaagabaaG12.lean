import Derived.Test.YtipnjeciaagabaaG11
import Derived.OrdersIn

set_option linter.unusedSimpArgs false
set_option linter.unusedVariables false

/- Regions: one order, or any. (3) The region's law. -/
namespace Go.Aff
set_option linter.unusedVariables false
set_option linter.unusedSimpArgs false

variable {g g' : G} {w w' : World} {σ σ' : AST} {P : Program} {ops : Array Oper}

theorem awpD_front {n : Nat} {i : Nat} {oi : Oper} (hi : ops[i]? = some oi) (hdst : ∀ (j : Nat) o, ops[j]? = some o → ∀ k, o.dst = some k → k < n) {B : List Nat} {K : Env → AST → Prop} :
    ∀ (A : List Nat) (past : List (Nat × Env × AV)) (τ : Env) (σ : AST), (∀ a ∈ A, ∃ o, ops[a]? = some o ∧ effO P o = false ∧ o.apart ops oi = true ∧ ahead (anc ops) i a = false) → Good n τ σ → awpD P ops (A ++ i :: B) past τ σ K →
      stepW P ops oi τ σ fun v σ' => (effO P oi = true → lateW P ops i past σ') ∧ (effO P oi = false → σ' = σ) ∧ ((∀ t, lenOk ((τ.putO oi.dst v) t)) → awpD P ops (A ++ B) past (τ.putO oi.dst v) σ' K)
  | [], past, τ, σ, _, hG, h => by
    simp only [List.nil_append, awpD, hi] at h
    cases he : effO P oi with
    | true =>
      rw [he] at h
      exact stepW_mono (fun v σ' hh => ⟨fun _ => hh.1, (fun q => by cases q), hh.2⟩) h
    | false =>
      rw [he] at h
      simp only [Bool.false_eq_true, if_false] at h
      obtain ⟨v, hv, hk⟩ := stepW_det hG.len he h
      exact hk _ ⟨(fun q => by cases q), fun _ => rfl, fun hlv => awpD_like B (likePast_tail past _) (hv hlv)⟩
  | a :: A, past, τ, σ, hA, hG, h => by
    obtain ⟨oa, hoa, hea, hap, hah⟩ := hA a (by simp)
    obtain ⟨ap1, ap2, ap3⟩ := Oper.apart_spec hap
    simp only [List.cons_append, awpD, hoa, hea] at h
    simp only [Bool.false_eq_true, if_false] at h
    obtain ⟨va, hva, hka⟩ := stepW_det hG.len hea h
    have heq : stepW P ops oa τ σ fun v' σ'' => v' = va ∧ σ'' = σ := hka _ ⟨rfl, rfl⟩
    have hG' : Good n (τ.putO oa.dst va) σ := hG.step (hdst a oa hoa) heq
    have ih := awpD_front hi hdst A ((a, τ, va) :: past) (τ.putO oa.dst va) σ (fun x hx => hA x (by simp [hx])) hG' (hva hG'.len)
    have hcong : ∀ K', stepW P ops oi (τ.putO oa.dst va) σ K' = stepW P ops oi τ σ K' := fun K' => stepW_congr fun t ht => putO_looks fun k hk e => ap1 k hk (e ▸ ht)
    rw [hcong] at ih
    refine stepW_mono (fun v σ' hh => ?_) ih
    obtain ⟨hlate, hpure, hrest⟩ := hh
    refine ⟨fun q x hx => hlate q x (List.mem_cons_of_mem _ hx), hpure, fun hlv => ?_⟩
    -- the deferred operation still comes to the same
    have hval : stepW P ops oa τ σ' fun v' σ'' => v' = va ∧ σ'' = σ' := by
      cases he : effO P oi with
      | true => exact hlate he (a, τ, va) (by simp) hah oa hoa
      | false => rw [hpure he]; exact heq
    have hcong2 : stepW P ops oa τ σ' (fun v' σ'' => v' = va ∧ σ'' = σ') = stepW P ops oa (τ.putO oi.dst v) σ' (fun v' σ'' => v' = va ∧ σ'' = σ') :=
      stepW_congr fun t ht => (putO_looks fun k hk e => ap3 k hk (e ▸ ht)).symm
    rw [hcong2] at hval
    simp only [List.cons_append, awpD, hoa, hea]
    simp only [Bool.false_eq_true, if_false]
    refine stepW_mono (fun v' σ'' hh _ => ?_) hval
    obtain ⟨rfl, rfl⟩ := hh
    rename_i hlv2
    rw [putO_comm _ _ fun d hd e => ap2 d e hd]
    rw [putO_comm _ _ fun d hd e => ap2 d e hd] at hlv2
    replace hrest := hrest hlv2
    refine awpD_like _ ?_ hrest
    intro x2 h2
    rcases List.mem_cons.1 h2 with rfl | h2
    · refine ⟨(a, τ, v'), by simp, rfl, rfl, fun o ho t ht => ?_⟩
      rw [hoa] at ho; cases ho
      exact (putO_looks fun k hk e => ap3 k hk (e ▸ ht)).symm
    · exact ⟨x2, List.mem_cons_of_mem _ h2, rfl, rfl, fun _ _ _ _ => rfl⟩

theorem getD_set {listed : Array Bool} {i j : Nat} {b : Bool} (hi : i < listed.size) : (listed.setIfInBounds i true).getD j b = if j = i then true else listed.getD j b := by
  simp only [Array.getD, Array.size_setIfInBounds]
  split
  · rename_i hlt
    simp only [Array.getInternal_eq_getElem, Array.getElem_setIfInBounds hlt]
    by_cases e : i = j
    · subst e; simp
    · rw [if_neg e, if_neg (fun q => e q.symm)]
  · rename_i hlt
    rw [if_neg (by rintro rfl; omega)]

theorem pairsOk_spec {b : List Nat} : ∀ {A : List Nat} {i : Nat} {B : List Nat}, pairsOk P ops b (A ++ i :: B) = true → (∀ a ∈ A, pairOk P ops b a i = true) ∧ pairsOk P ops b (A ++ B) = true
  | [], i, B, h => by simp only [List.nil_append, pairsOk, Bool.and_eq_true] at h; exact ⟨fun a ha => by simp at ha, h.2⟩
  | a :: A, i, B, h => by
    simp only [List.cons_append, pairsOk, Bool.and_eq_true, List.all_eq_true] at h
    obtain ⟨h1, h2⟩ := h
    obtain ⟨h3, h4⟩ := pairsOk_spec h2
    refine ⟨fun x hx => ?_, ?_⟩
    · rcases List.mem_cons.1 hx with rfl | hx
      · exact h1 i (by simp)
      · exact h3 x hx
    · simp only [List.cons_append, pairsOk, Bool.and_eq_true, List.all_eq_true]
      refine ⟨fun y hy => h1 y ?_, h4⟩
      simp only [List.mem_append, List.mem_cons] at hy ⊢
      rcases hy with hy | hy
      · exact .inl hy
      · exact .inr (.inr hy)

/-- What is said of a state and a place in the run. -/
def Lift (n : Nat) (g0 : G) (w0 : World) (ds : List Deferred) (Q : Exit → Env → AST → Prop) : Exit → Act → World → Prop := fun e a w =>
  ∃ g τ σ, Ev g0 w0 g w ∧ Inv g σ w ∧ relE g w τ a.tmps ∧ a.tmps.size = n ∧ a.defers = ds ∧ Q e τ σ

theorem put_defers (a : Act) (d : Option Nat) (v : Value) : (a.put d v).defers = a.defers := by cases d <;> rfl

theorem any_sound {r : Option Nat} {n : Nat} {g0 : G} {w0 : World} {ds : List Deferred} {Q : Exit → Env → AST → Prop} {K : Env → AST → Prop} (hK : ∀ τ σ, K τ σ → Q .normal τ σ) (hdst : ∀ (j : Nat) o, ops[j]? = some o → ∀ k, o.dst = some k → k < n) (hedge : edgesOk ops = true) :
    ∀ (fuel : Nat) (listed : Array Bool) (R : List Nat) (g : G) (w : World) (a : Act) (τ : Env) (σ : AST), listed.size = ops.size → (∀ i, i ∈ R ↔ i < ops.size ∧ listed.getD i true = false) → R.Nodup → pairsOk P ops (anc ops) R = true → (∀ i, i < ops.size → ahead (anc ops) i i = false) →
      (∀ y, y < ops.size → listed.getD y false = true → ∀ x, ahead (anc ops) y x = true → listed.getD x false = true) → R.length ≤ fuel →
      awpD P ops R [] τ σ K → Ev g0 w0 g w → Inv g σ w → relE g w τ a.tmps → a.tmps.size = n → a.defers = ds → wpAnyIn (FR r) 0 P .any ops (Lift n g0 w0 ds Q) fuel listed a w := by
  intro fuel
  have getD_tf : ∀ {listed : Array Bool} {i : Nat}, i < listed.size → listed.getD i true = listed.getD i false := by
    intro listed i h; simp [Array.getD, h]
  have edges : ∀ {y : Nat} {o : Oper} {e : Edge}, ops[y]? = some o → e ∈ o.after.toList → Region.binds .any e = true → e.on < ops.size := by
    intro y o e ho he hb
    unfold edgesOk at hedge
    rw [Array.all_eq_true] at hedge
    obtain ⟨hy, rfl⟩ := Array.getElem?_eq_some_iff.1 ho
    have h1 := hedge y hy
    rw [Array.all_eq_true] at h1
    obtain ⟨k, hk, rfl⟩ := List.mem_iff_getElem.1 he
    have h2 := h1 k (by simpa using hk)
    simp only [Array.getElem_toList] at hb
    rw [hb] at h2
    simpa using h2
  have ready_spec : ∀ {listed : Array Bool} {i : Nat}, listed.size = ops.size → (i ∈ Region.ready .any ops listed ↔ i < ops.size ∧ listed.getD i true = false ∧ ∀ o, ops[i]? = some o → ∀ e ∈ o.after.toList, Region.binds .any e = true → listed.getD e.on false = true) := by
    intro listed i hsz
    unfold Region.ready
    simp only [List.mem_filter, List.mem_range, Bool.and_eq_true, Bool.not_eq_true']
    constructor
    · rintro ⟨h1, h2, h3⟩
      refine ⟨h1, h2, fun o ho e he hb => ?_⟩
      rw [ho] at h3
      simp only [Option.map_some, Option.getD_some] at h3
      rw [Array.all_eq_true] at h3
      obtain ⟨k, hk, rfl⟩ := List.mem_iff_getElem.1 he
      have := h3 k (by simpa using hk)
      simp only [Array.getElem_toList] at hb ⊢
      rw [hb] at this
      simpa using this
    · rintro ⟨h1, h2, h3⟩
      refine ⟨h1, h2, ?_⟩
      rw [Array.getElem?_eq_getElem h1]
      simp only [Option.map_some, Option.getD_some]
      rw [Array.all_eq_true]
      intro k hk
      have := h3 _ (Array.getElem?_eq_getElem h1) ops[i].after[k] (by simp)
      cases hb : Region.binds .any ops[i].after[k] with
      | false => rfl
      | true => simpa using this hb
  -- what stands ahead of a ready operation has been listed
  have ahead_listed : ∀ {listed : Array Bool}, listed.size = ops.size → (∀ y, y < ops.size → listed.getD y false = true → ∀ x, ahead (anc ops) y x = true → listed.getD x false = true) → ∀ {i x : Nat}, i ∈ Region.ready .any ops listed → ahead (anc ops) i x = true → listed.getD x false = true := by
    intro listed hsz hcl i x hi hx
    obtain ⟨o, ho, e, he, hb, hh⟩ := anc_bit hx
    have h1 := ((ready_spec hsz).1 hi).2.2 o ho e he hb
    rcases hh with rfl | hh
    · exact h1
    · exact hcl e.on (edges ho he hb) h1 x hh
  have none_ready : ∀ {listed : Array Bool} {R : List Nat}, listed.size = ops.size → (∀ i, i ∈ R ↔ i < ops.size ∧ listed.getD i true = false) → pairsOk P ops (anc ops) R = true → (∀ i, i < ops.size → ahead (anc ops) i i = false) → Region.ready .any ops listed = [] → R = [] := by
    intro listed R hsz hR hp hself hr
    cases R with
    | nil => rfl
    | cons r R =>
      exfalso
      have hr1 := (hR r).1 (by simp)
      have : r ∈ Region.ready .any ops listed := by
        rw [ready_spec hsz]
        refine ⟨hr1.1, hr1.2, fun o ho e he hb => ?_⟩
        cases hl : listed.getD e.on false with
        | true => rfl
        | false =>
          exfalso
          have hlt := edges ho he hb
          have hmem : e.on ∈ r :: R := (hR _).2 ⟨hlt, by rw [getD_tf (by rw [hsz]; exact hlt)]; exact hl⟩
          have hah : ahead (anc ops) r e.on = true := anc_edge ho he hb
          rcases List.mem_cons.1 hmem with heq | hmem
          · rw [heq, hself r hr1.1] at hah; cases hah
          · simp only [pairsOk, Bool.and_eq_true, List.all_eq_true] at hp
            have := hp.1 _ hmem
            unfold pairOk at this
            rw [hah] at this
            simp at this
      rw [hr] at this; simp at this
  induction fuel with
  | zero =>
    intro listed R g w a τ σ hsz hR hnd hp hself hcl hlen h hE hI hr hn hd
    have hR0 : R = [] := List.eq_nil_of_length_eq_zero (by omega)
    subst hR0
    refine ⟨?_, g, τ, σ, hE, hI, hr, hn, hd, hK _ _ h⟩
    apply List.eq_nil_iff_forall_not_mem.2
    intro i hi
    have h1 := (ready_spec hsz).1 hi
    have := (hR i).2 ⟨h1.1, h1.2.1⟩
    simp at this
  | succ fuel ih =>
    intro listed R g w a τ σ hsz hR hnd hp hself hcl hlen h hE hI hr hn hd
    refine ⟨fun hrd => ?_, fun i hi => ?_⟩
    · have hR0 := none_ready hsz hR hp hself hrd
      subst hR0
      exact ⟨g, τ, σ, hE, hI, hr, hn, hd, hK _ _ h⟩
    · have h1 := (ready_spec hsz).1 hi
      have hmem := (hR i).2 ⟨h1.1, h1.2.1⟩
      obtain ⟨A, B, rfl⟩ := List.append_of_mem hmem
      obtain ⟨hpa, hpr⟩ := pairsOk_spec hp
      obtain ⟨oi, hoi⟩ : ∃ o, ops[i]? = some o := ⟨_, Array.getElem?_eq_getElem h1.1⟩
      have hA : ∀ x ∈ A, ∃ o, ops[x]? = some o ∧ effO P o = false ∧ o.apart ops oi = true ∧ ahead (anc ops) i x = false := by
        intro x hx
        have hxR := (hR x).1 (by simp [hx])
        have hnot : ahead (anc ops) i x = false := by
          cases hb : ahead (anc ops) i x with
          | false => rfl
          | true =>
            have := ahead_listed hsz hcl hi hb
            rw [getD_tf (by rw [hsz]; exact hxR.1), this] at hxR
            cases hxR.2
        obtain ⟨ox, hox⟩ : ∃ o, ops[x]? = some o := ⟨_, Array.getElem?_eq_getElem hxR.1⟩
        have hpx := hpa x hx
        unfold pairOk at hpx
        rw [hnot, hox, hoi] at hpx
        simp only [Bool.false_or, Bool.and_eq_true, Bool.not_eq_true'] at hpx
        exact ⟨ox, hox, hpx.2.2, hpx.2.1, hnot⟩
      have hfront := awpD_front (n := n) hoi hdst A [] τ σ hA ⟨g, w, a, hI, hr, hn⟩ h
      unfold wpOpIn
      rw [hoi]
      simp only
      have hnd' : (A ++ B).Nodup := by
        rw [List.nodup_append] at hnd ⊢
        obtain ⟨n1, n2, n3⟩ := hnd
        exact ⟨n1, (List.nodup_cons.1 n2).2, fun x hx y hy => n3 x hx y (List.mem_cons_of_mem _ hy)⟩
      have hi_not : i ∉ A ++ B := by
        rw [List.nodup_append] at hnd
        obtain ⟨n1, n2, n3⟩ := hnd
        intro hm
        rcases List.mem_append.1 hm with hm | hm
        · exact n3 i hm i (by simp) rfl
        · exact (List.nodup_cons.1 n2).1 hm
      have next : ∀ (g' : G) (w' : World) (v : AV) (x : Value) (σ' : AST), Ev g w g' w' → Inv g' σ' w' → relV g' w' v x → awpD P ops (A ++ B) [] (τ.putO oi.dst v) σ' K → wpAnyIn (FR r) 0 P .any ops (Lift n g0 w0 ds Q) fuel (listed.setIfInBounds i true) (a.put oi.dst x) w' := by
        intro g' w' v x σ' hE' hI' hv hh
        refine ih (listed.setIfInBounds i true) (A ++ B) g' w' _ _ σ' (by simp [hsz]) ?_ hnd' hpr hself ?_ (by simp at hlen ⊢; omega) hh (hE.trans hE') hI' (relE_put (relE_mono hE' hr) (fun k hk => by rw [hn]; exact hdst i oi hoi k hk) hv) (by rw [size_put, hn]) (by rw [put_defers, hd])
        · intro j
          rw [getD_set (by rw [hsz]; exact h1.1)]
          by_cases hj : j = i
          · subst hj
            simp only [if_true]
            exact ⟨fun hm => absurd hm hi_not, fun hm => by cases hm.2⟩
          · rw [if_neg hj, ← hR j]
            simp only [List.mem_append, List.mem_cons]
            constructor
            · rintro (h | h)
              · exact .inl h
              · exact .inr (.inr h)
            · rintro (h | h | h)
              · exact .inl h
              · exact absurd h hj
              · exact .inr h
        · intro y hy hly z hz
          rw [getD_set (by rw [hsz]; exact h1.1)] at hly ⊢
          by_cases hzi : z = i
          · rw [if_pos hzi]
          · rw [if_neg hzi]
            by_cases hyi : y = i
            · subst hyi; exact ahead_listed hsz hcl hi hz
            · rw [if_neg hyi] at hly; exact hcl y hy hly z hz
      have := step_sound (r := r) (Q := Lift n g0 w0 ds Q) (next := wpAnyIn (FR r) 0 P .any ops (Lift n g0 w0 ds Q) fuel (listed.setIfInBounds i true)) hI hr hfront (fun g' w' v x σ' hE' hI' hv hh => next g' w' v x σ' hE' hI' hv (hh.2.2 fun t => lenOk_of (relE_put (relE_mono hE' hr) (fun k hk => by rw [hn]; exact hdst i oi hoi k hk) hv t)))
      exact this

/-- A REGION THAT DRAWS ITS ORDER. -/
theorem region_draw_sound {r : Option Nat} {n id : Nat} {g : G} {w : World} {a : Act} {τ : Env} {σ : AST} {Q : Exit → Env → AST → Prop} (ord : List Nat) (hord : ordOk P ops ord = true) (hdst : ∀ (j : Nat) o, ops[j]? = some o → ∀ k, o.dst = some k → k < n)
    (hm : P.follows .mixedOrders = true) (h : awpD P ops ord [] τ σ (Q .normal)) (hI : Inv g σ w) (hr : relE g w τ a.tmps) (hn : a.tmps.size = n) :
    (Code.region id ops true).wpIn (FR r) 0 P (Lift n g w a.defers Q) a w := by
  unfold ordOk at hord
  simp only [Bool.and_eq_true, decide_eq_true_eq, List.all_eq_true] at hord
  obtain ⟨⟨⟨⟨⟨⟨h1, h2⟩, h3⟩, h4⟩, h5⟩, h6⟩, h7⟩ := hord
  have hmem : ∀ i, i < ops.size → i ∈ ord := fun i hi => by simpa using h7 i (List.mem_range.2 hi)
  have hself : ∀ i, i < ops.size → ahead (anc ops) i i = false := fun i hi => by simpa using h5 i (hmem i hi)
  have hrep : ∀ (i : Nat) (b : Bool), (Array.replicate ops.size false).getD i b = if i < ops.size then false else b := by
    intro i b
    by_cases hi : i < ops.size <;> simp [Array.getD, hi]
  refine wpIn_region_any hm ?_
  exact any_sound (fun _ _ h => h) hdst h6 ops.size _ ord g _ a τ σ (by simp) (fun i => by
      rw [hrep]
      constructor
      · intro hi; have := h2 i hi; simp [this]
      · rintro ⟨hi, _⟩; exact hmem i hi) h3 h4 hself (fun y hy hl => by rw [hrep, if_pos hy] at hl; cases hl) (by rw [h1]; exact Nat.le_refl _) h (ev_drew g w) (inv_drew hI) (relE_mono (ev_drew g w) hr) hn rfl

end Go.Aff

