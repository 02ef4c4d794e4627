import Derived.Test.YtipnjeciaagabaaG13
import Derived.Sort.LoopGhostIn
import Derived.Scope

set_option linter.unusedSimpArgs false
set_option linter.unusedVariables false

/- Code, loops, calls: the abstract wp, and that it tells the truth. -/
namespace Go.Aff
set_option linter.unusedVariables false
set_option linter.unusedSimpArgs false

variable {g g' : G} {w w' : World} {σ σ' : AST} {P : Program} {ops : Array Oper}

def awpSeq (P : Program) (ops : Array Oper) : List Oper → Env → AST → (Env → AST → Prop) → Prop
  | [], τ, σ, K => K τ σ
  | o :: r, τ, σ, K => stepW P ops o τ σ fun v σ' => awpSeq P ops r (τ.putO o.dst v) σ' K

theorem seq_sound {r0 : Option Nat} {n : Nat} {g0 : G} {w0 : World} {ds : List Deferred} {Q : Exit → Env → AST → Prop} (hdst : ∀ (j : Nat) o, ops[j]? = some o → ∀ k, o.dst = some k → k < n) :
    ∀ (r : List Oper) (k : Nat) (g : G) (w : World) (a : Act) (τ : Env) (σ : AST), ops.toList.drop k = r → awpSeq P ops r τ σ (Q .normal) → Ev g0 w0 g w → Inv g σ w → relE g w τ a.tmps → a.tmps.size = n → a.defers = ds →
      wpOpsIn (FR r0) 0 P ops (Lift n g0 w0 ds Q) (List.range' k r.length) a w
  | [], k, g, w, a, τ, σ, hk, h, hE, hI, hr, hn, hd => ⟨g, τ, σ, hE, hI, hr, hn, hd, h⟩
  | o :: r, k, g, w, a, τ, σ, hk, h, hE, hI, hr, hn, hd => by
    have ho : ops[k]? = some o := by
      have : (ops.toList.drop k)[0]? = some o := by rw [hk]; rfl
      simpa using this
    have hk' : ops.toList.drop (k + 1) = r := by
      have h0 : (ops.toList.drop k).drop 1 = r := by rw [hk]; rfl
      rw [← h0, List.drop_drop]
    simp only [List.length_cons, List.range'_succ]
    rw [wpOpsIn_cons]
    unfold wpOpIn
    rw [ho]
    simp only [awpSeq] at h
    exact step_sound hI hr h (fun g' w' v x σ' hE' hI' hv hh =>
      seq_sound hdst r (k + 1) g' w' _ _ σ' hk' hh (hE.trans hE') hI' (relE_put (relE_mono hE' hr) (fun q hq => by rw [hn]; exact hdst k o ho q hq) hv) (by rw [size_put, hn]) (by rw [put_defers, hd]))

def thenQ (next : Env → AST → Prop) (Q : Exit → Env → AST → Prop) : Exit → Env → AST → Prop
  | .normal, τ, σ => next τ σ
  | e, τ, σ => Q e τ σ

section
variable {P : Program} {b : Frame} {a : Act} {k : List Item} {cs : List Frame} {w : World} {F : Fence} {n : Nat} {Q : Exit → Act → World → Prop}
theorem stepR_scope {c : Code} : step P (lone (b.atR a (.code (.scope c) :: k)) cs w) = .next (lone (b.atR a (.code c :: .inScope c :: k)) cs w) :=
  step_lone_go (by simp [stepG, stepG.exec, Frame.atR])
theorem stepR_inScope {c : Code} : step P (lone (b.atR a (.inScope c :: k)) cs w) = .next (lone (b.atR a k) cs w) :=
  step_lone_go (by simp [stepG, stepG.exec, Frame.atR])
/-- A scope through which the run goes without a jump. -/
theorem wpIn_scope {c : Code} (h : c.wpIn F n P (Exit.noGoto Q) a w) : (Code.scope c).wpIn F n P Q a w := by
  intro b k cs hro hb hr
  have h0 : (lone (b.atR a (.code (.scope c) :: k)) cs w).fenced P F := fenced_calm hb hr rfl
  obtain ⟨e, a₁, w₁, hq, harr⟩ := h b (.inScope c :: k) cs hro hb hr
  cases e with
  | normal => exact ⟨.normal, a₁, w₁, hq, .head h0 stepR_scope (StepsIn.trans harr (.one (fenced_calm hb hr rfl) stepR_inScope))⟩
  | exit id =>
    have hx : exitTo id (.inScope c :: k) = exitTo id k := by simp [exitTo]
    exact ⟨.exit id, a₁, w₁, hq, fun k' hk => .head h0 stepR_scope (harr.1 k' (by rw [hx]; exact hk)),
      fun hr' hk => let ⟨k₁, h1, h2⟩ := harr.2 hr' (by rw [hx]; exact hk); ⟨k₁, h1, .head h0 stepR_scope h2⟩⟩
  | goto l => exact hq.elim
  | ret => exact ⟨_, a₁, w₁, hq, .of_steps (.one h0 stepR_scope) harr⟩
  | panic ch => exact ⟨_, a₁, w₁, hq, .of_steps (.one h0 stepR_scope) harr⟩
  | outgrown => exact ⟨_, a₁, w₁, hq, .of_steps (.one h0 stepR_scope) harr⟩
end

def blockQ (id : Nat) (Q : Exit → Env → AST → Prop) : Exit → Env → AST → Prop
  | .exit id', τ, σ => if id' = id then Q .normal τ σ else Q (.exit id') τ σ
  | e, τ, σ => Q e τ σ

def noGotoQ (Q : Exit → Env → AST → Prop) : Exit → Env → AST → Prop
  | .goto _, _, _ => False
  | e, τ, σ => Q e τ σ

def awp (P : Program) : Code → (Exit → Env → AST → Prop) → Env → AST → Prop
  | .skip, Q, τ, σ => Q .normal τ σ
  | .region _ ops false, Q, τ, σ => awpSeq P ops ops.toList τ σ (Q .normal)
  | .region _ ops true, Q, τ, σ => (∃ ord, ordOk P ops ord = true ∧ ((∀ t, lenOk (τ t)) → awpD P ops ord [] τ σ (Q .normal))) ∨ (∃ T, trOk P ops T = true ∧ ((∀ t, lenOk (τ t)) → awpT P ops T [] τ σ (Q .normal)))
  | .seq a b, Q, τ, σ => awp P a (thenQ (fun τ σ => awp P b Q τ σ) Q) τ σ
  | .cond c a b, Q, τ, σ => boolW (ev τ c) (awp P a Q τ σ) (awp P b Q τ σ)
  | .block id c, Q, τ, σ => awp P c (blockQ id Q) τ σ
  | .loop c, Q, τ, σ => ∃ (I : Nat → Env → AST → Prop) (n : Nat), I n τ σ ∧ ∀ n τ σ, I n τ σ → awp P c (thenQ (fun τ' σ' => ∃ m, m < n ∧ I m τ' σ') Q) τ σ
  | .exit id, Q, τ, σ => Q (.exit id) τ σ
  | .scope c, Q, τ, σ => awp P c (noGotoQ Q) τ σ
  | .label _, Q, τ, σ => Q .normal τ σ
  | .goto l, Q, τ, σ => Q (.goto l) τ σ
  | .ret, Q, τ, σ => Q .ret τ σ
  | _, _, _, _ => False

def dstOk (n : Nat) : Code → Bool
  | .region _ ops _ => ops.toList.all fun o => match o.dst with
    | some k => decide (k < n)
    | none => true
  | .seq a b => dstOk n a && dstOk n b
  | .cond _ a b => dstOk n a && dstOk n b
  | .block _ c => dstOk n c
  | .loop c => dstOk n c
  | .scope c => dstOk n c
  | .rangeFunc .. => false
  | _ => true

theorem dst_of {n : Nat} (h : (ops.toList.all fun o => match o.dst with | some k => decide (k < n) | none => true) = true) : ∀ (j : Nat) o, ops[j]? = some o → ∀ k, o.dst = some k → k < n := by
  intro j o ho k hk
  rw [List.all_eq_true] at h
  have := h o (List.mem_iff_getElem?.2 ⟨j, by simpa using ho⟩)
  rw [hk] at this
  simpa using this

theorem Lift.trans {n : Nat} {ds : List Deferred} {Q : Exit → Env → AST → Prop} {e : Exit} {a : Act} {w0 w1 : World} {g0 g1 : G} (hE : Ev g0 w0 g1 w1) (h : Lift n g1 w1 ds Q e a w) : Lift n g0 w0 ds Q e a w := by
  obtain ⟨g2, τ, σ, h1, h2⟩ := h
  exact ⟨g2, τ, σ, hE.trans h1, h2⟩

theorem awp_sound {r0 : Option Nat} {n : Nat} (hm : P.follows .mixedOrders = true) : ∀ (c : Code) {Q : Exit → Env → AST → Prop} {τ : Env} {σ : AST} {g : G} {w : World} {a : Act}, dstOk n c = true → awp P c Q τ σ → Inv g σ w → relE g w τ a.tmps → a.tmps.size = n →
    c.wpIn (FR r0) 0 P (Lift n g w a.defers Q) a w
  | .skip, Q, τ, σ, g, w, a, _, h, hI, hr, hn => wpIn_skip ⟨g, τ, σ, Ev.refl _ _, hI, hr, hn, rfl, h⟩
  | .region id ops false, Q, τ, σ, g, w, a, hd, h, hI, hr, hn => by
    refine wpIn_region ?_
    have := seq_sound (r0 := r0) (n := n) (g0 := g) (w0 := w) (ds := a.defers) (Q := Q) (dst_of (by simpa [dstOk] using hd)) ops.toList 0 g w a τ σ rfl h (Ev.refl _ _) hI hr hn rfl
    rw [List.range_eq_range']
    simpa using this
  | .region id ops true, Q, τ, σ, g, w, a, hd, h, hI, hr, hn => by
    rcases h with ⟨ord, hord, h⟩ | ⟨T, hT, h⟩
    · exact region_draw_sound ord hord (dst_of (by simpa [dstOk] using hd)) hm (h fun t => lenOk_of (hr t)) hI hr hn
    · exact region_drawT_sound T hT (dst_of (by simpa [dstOk] using hd)) hm (h fun t => lenOk_of (hr t)) hI hr hn
  | .seq x y, Q, τ, σ, g, w, a, hd, h, hI, hr, hn => by
    simp only [dstOk, Bool.and_eq_true] at hd
    simp only [awp] at h
    refine wpIn_seq (wpIn_mono (awp_sound hm x hd.1 h hI hr hn) ?_)
    rintro e a' w' ⟨g', τ', σ', hE, hI', hr', hn', hds, hq⟩
    cases e with
    | normal =>
      have := awp_sound (r0 := r0) hm y hd.2 hq hI' hr' hn'
      refine wpIn_mono this fun e a2 w2 hl => ?_
      rw [hds] at hl
      exact Lift.trans hE hl
    | exit id => exact ⟨g', τ', σ', hE, hI', hr', hn', hds, hq⟩
    | goto l => exact ⟨g', τ', σ', hE, hI', hr', hn', hds, hq⟩
    | ret => exact ⟨g', τ', σ', hE, hI', hr', hn', hds, hq⟩
    | panic ch => exact ⟨g', τ', σ', hE, hI', hr', hn', hds, hq⟩
    | outgrown => exact ⟨g', τ', σ', hE, hI', hr', hn', hds, hq⟩
  | .cond c x y, Q, τ, σ, g, w, a, hd, h, hI, hr, hn => by
    simp only [dstOk, Bool.and_eq_true] at hd
    simp only [awp, boolW] at h
    split at h
    · rename_i b hb
      have hv := ev_rel hr c
      rw [hb] at hv
      exact wpIn_cond_split (relV_bool hv) (fun e => awp_sound hm x hd.1 (h.1 e) hI hr hn) (fun e => awp_sound hm y hd.2 (h.2 e) hI hr hn)
    · exact h.elim
  | .block id c, Q, τ, σ, g, w, a, hd, h, hI, hr, hn => by
    simp only [dstOk] at hd
    simp only [awp] at h
    refine wpIn_block (wpIn_mono (awp_sound hm c hd h hI hr hn) ?_)
    rintro e a' w' ⟨g', τ', σ', hE, hI', hr', hn', hds, hq⟩
    cases e with
    | exit id' =>
      simp only [Exit.inBlock, blockQ] at hq ⊢
      split
      · rename_i e; rw [if_pos e] at hq; exact ⟨g', τ', σ', hE, hI', hr', hn', hds, hq⟩
      · rename_i e; rw [if_neg e] at hq; exact ⟨g', τ', σ', hE, hI', hr', hn', hds, hq⟩
    | normal => exact ⟨g', τ', σ', hE, hI', hr', hn', hds, hq⟩
    | goto l => exact ⟨g', τ', σ', hE, hI', hr', hn', hds, hq⟩
    | ret => exact ⟨g', τ', σ', hE, hI', hr', hn', hds, hq⟩
    | panic ch => exact ⟨g', τ', σ', hE, hI', hr', hn', hds, hq⟩
    | outgrown => exact ⟨g', τ', σ', hE, hI', hr', hn', hds, hq⟩
  | .loop c, Q, τ, σ, g, w, a, hd, h, hI, hr, hn => by
    simp only [dstOk] at hd
    simp only [awp] at h
    obtain ⟨I, m0, h0, hround⟩ := h
    refine wpIn_loop_ghost (fun k a' w' => ∃ g' τ' σ', Ev g w g' w' ∧ Inv g' σ' w' ∧ relE g' w' τ' a'.tmps ∧ a'.tmps.size = n ∧ a'.defers = a.defers ∧ I k τ' σ') m0
      ⟨g, τ, σ, Ev.refl _ _, hI, hr, hn, rfl, h0⟩ ?_
    rintro k a1 w1 ⟨g1, τ1, σ1, hE1, hI1, hr1, hn1, hd1, h1⟩
    refine wpIn_mono (awp_sound hm c hd (hround k τ1 σ1 h1) hI1 hr1 hn1) ?_
    rintro e a' w' ⟨g', τ', σ', hE, hI', hr', hn', hds, hq⟩
    cases e with
    | normal => obtain ⟨m, hm, hq⟩ := hq; exact ⟨m, hm, g', τ', σ', hE1.trans hE, hI', hr', hn', hds.trans hd1, hq⟩
    | exit id => exact ⟨g', τ', σ', hE1.trans hE, hI', hr', hn', hds.trans hd1, hq⟩
    | goto l => exact ⟨g', τ', σ', hE1.trans hE, hI', hr', hn', hds.trans hd1, hq⟩
    | ret => exact ⟨g', τ', σ', hE1.trans hE, hI', hr', hn', hds.trans hd1, hq⟩
    | panic ch => exact ⟨g', τ', σ', hE1.trans hE, hI', hr', hn', hds.trans hd1, hq⟩
    | outgrown => exact ⟨g', τ', σ', hE1.trans hE, hI', hr', hn', hds.trans hd1, hq⟩
  | .exit id, Q, τ, σ, g, w, a, _, h, hI, hr, hn => wpIn_exit ⟨g, τ, σ, Ev.refl _ _, hI, hr, hn, rfl, h⟩
  | .scope c, Q, τ, σ, g, w, a, hd, h, hI, hr, hn => by
    simp only [dstOk] at hd
    simp only [awp] at h
    refine wpIn_scope (wpIn_mono (awp_sound hm c hd h hI hr hn) ?_)
    rintro e a' w' ⟨g', τ', σ', hE, hI', hr', hn', hds, hq⟩
    cases e with
    | goto l => exact hq.elim
    | normal => exact ⟨g', τ', σ', hE, hI', hr', hn', hds, hq⟩
    | exit id => exact ⟨g', τ', σ', hE, hI', hr', hn', hds, hq⟩
    | ret => exact ⟨g', τ', σ', hE, hI', hr', hn', hds, hq⟩
    | panic ch => exact ⟨g', τ', σ', hE, hI', hr', hn', hds, hq⟩
    | outgrown => exact ⟨g', τ', σ', hE, hI', hr', hn', hds, hq⟩
  | .label _, Q, τ, σ, g, w, a, _, h, hI, hr, hn => wpIn_label ⟨g, τ, σ, Ev.refl _ _, hI, hr, hn, rfl, h⟩
  | .goto l, Q, τ, σ, g, w, a, _, h, hI, hr, hn => wpIn_goto ⟨g, τ, σ, Ev.refl _ _, hI, hr, hn, rfl, h⟩
  | .ret, Q, τ, σ, g, w, a, _, h, hI, hr, hn => wpIn_ret ⟨g, τ, σ, Ev.refl _ _, hI, hr, hn, rfl, h⟩
  | .rangeFunc .., Q, τ, σ, g, w, a, hd, h, hI, hr, hn => by simp [dstOk] at hd
  | .refuse _, Q, τ, σ, g, w, a, hd, h, hI, hr, hn => by simp [awp] at h

/-! ### Calls -/

def oneRes (P : Program) (τ : Env) (σ : AST) : ResultVar → (AV → Prop) → Prop
  | .tmp t, K => K (τ t)
  | .cell a t, K => loadW P σ t (τ a) K

def resList (P : Program) (τ : Env) (σ : AST) : List ResultVar → List AV → (List AV → Prop) → Prop
  | [], acc, K => K acc
  | r :: rs, acc, K => oneRes P τ σ r fun v => resList P τ σ rs (acc ++ [v]) K

/-- What a function hands back. -/
def resW (P : Program) (rs : List ResultVar) (τ : Env) (σ : AST) (K : AV → Prop) : Prop := match rs with
  | [r] => oneRes P τ σ r K
  | rs => resList P τ σ rs [] fun vs => (∀ v ∈ vs, v.known = true) ∧ K (.tuple vs)

def bodyQ (P : Program) (fn : Func) (K : AV → AST → Prop) : Exit → Env → AST → Prop := fun e τ σ => match e with
  | .normal | .ret => resW P fn.results.toList τ σ fun v => K v σ
  | _ => False

def env0 (args : List AV) : Env := fun t => args.getD t .undef

theorem load_run (hI : Inv g σ w) {t : TypeId} {a : AV} {x : Value} {K : AV → Prop} (ha : relV g w a x) (h : loadW P σ t a K) :
    ∃ b o y v, x = .pointer (some ⟨b, o, none⟩) ∧ (loadVar t ⟨b, o, none⟩).run P w = .ok y w ∧ relV g w v y ∧ K v := by
  unfold loadW at h
  split at h
  · rename_i i p
    split at h
    · rename_i v hobj
      split at h
      · rename_i u hat
        obtain ⟨b, sh, o, hg, ho, rfl⟩ := relV_ptr ha
        obtain ⟨_, _, c, e, hc, hr, hs⟩ := obj_cells hI hobj hg
        obtain ⟨cu, hcu, hcell, _⟩ := at_rel hr hat (hs ▸ ho)
        have hrd : rd w b o cu := ⟨c, e, (0, 0), hc, fun j hj => by rw [← hcell j hj]; simp⟩
        obtain ⟨y, hy, hv⟩ := run_loadVar' h.1 hcu hrd
        exact ⟨b, o, y, u, rfl, hy, hv, h.2⟩
      · exact h.elim
    · exact h.elim
  · rename_i v
    obtain ⟨b, o, cv, rfl, hv, hr, _⟩ := relV_eptr ha
    obtain ⟨y, hy, hv'⟩ := run_loadVar' h.1 hv hr
    exact ⟨b, o, y, v, rfl, hy, hv', h.2⟩
  · exact h.elim

def resRun (tmps : Array Value) : ResultVar → Sem Value
  | .tmp t => pure (tmps.getD t Go.undef)
  | .cell a t => do loadVar t (← asAddr (tmps.getD a Go.undef))

theorem oneRes_run (hI : Inv g σ w) {τ : Env} {tmps : Array Value} (hr : relE g w τ tmps) {r : ResultVar} {K : AV → Prop} (h : oneRes P τ σ r K) : ∃ y v, (resRun tmps r).run P w = .ok y w ∧ relV g w v y ∧ K v := by
  cases r with
  | tmp t => exact ⟨_, _, rfl, hr t, h⟩
  | cell a t =>
    obtain ⟨b, o, y, v, hx, hrun, hv, hk⟩ := load_run hI (hr a) h
    exact ⟨y, v, by simp only [resRun, Sem.run_bind, hx, asAddr, Sem.run_pure, Result.andThen_ok, hrun], hv, hk⟩

theorem resList_run (hI : Inv g σ w) {τ : Env} {tmps : Array Value} (hr : relE g w τ tmps) : ∀ (rs : List ResultVar) (acc : List AV) (K : List AV → Prop), resList P τ σ rs acc K →
    ∃ ys vs, (rs.mapM (resRun tmps)).run P w = .ok ys w ∧ ys.length = rs.length ∧ relA g w vs ys ∧ K (acc ++ vs)
  | [], acc, K, h => ⟨[], [], by simp, rfl, ⟨rfl, fun i v x h => by simp at h⟩, by simpa [resList] using h⟩
  | r :: rs, acc, K, h => by
    simp only [resList] at h
    obtain ⟨y, v, hy, hv, hk⟩ := oneRes_run hI hr h
    obtain ⟨ys, vs, hys, hlen, hA, hk'⟩ := resList_run hI hr rs _ K hk
    refine ⟨y :: ys, v :: vs, by simp [List.mapM_cons, hy, hys], by simp [hlen], ⟨by simp [hA.1], fun i u x hu hx => ?_⟩, by simpa using hk'⟩
    cases i with
    | zero => simp at hu hx; subst hu hx; exact hv
    | succ i => simp at hu hx; exact hA.2 i u x hu hx

theorem results_eq (fn : Func) (tmps : Array Value) : results fn tmps = (do let vs ← fn.results.mapM (resRun tmps); pure (if h : vs.size = 1 then vs[0] else .tuple vs)) := by
  unfold results
  congr 1

theorem relVs_of : ∀ {vs : List AV} {ys : List Value}, relA g w vs ys → (∀ v ∈ vs, v.known = true) → relVs g w vs ys
  | [], ys, h, _ => by have := h.1; simp at this; have : ys = [] := List.eq_nil_of_length_eq_zero (by omega); subst this; simp [relVs]
  | v :: vs, [], h, _ => by have := h.1; simp at this
  | v :: vs, y :: ys, h, hk => by
    simp only [relVs]
    obtain ⟨h1, h2⟩ := relV_known (h.2 0 v y rfl rfl) (hk v (by simp))
    exact ⟨y, ys, rfl, h1, h2, relVs_of ⟨by have := h.1; simpa using this, fun i u x hu hx => h.2 (i + 1) u x (by simpa using hu) (by simpa using hx)⟩ fun u hu => hk u (by simp [hu])⟩

theorem resW_run (hI : Inv g σ w) {fn : Func} {τ : Env} {tmps : Array Value} (hr : relE g w τ tmps) {K : AV → Prop} (h : resW P fn.results.toList τ σ K) : ∃ y v, (results fn tmps).run P w = .ok y w ∧ relV g w v y ∧ K v := by
  rw [results_eq]
  rw [Array.mapM_eq_mapM_toList]
  unfold resW at h
  split at h
  · rename_i r hrs
    obtain ⟨y, v, hy, hv, hk⟩ := oneRes_run hI hr h
    exact ⟨y, v, by simp [hrs, List.mapM_cons, hy], hv, hk⟩
  · rename_i hne
    obtain ⟨ys, vs, hys, hlen, hA, hk⟩ := resList_run hI hr _ _ _ h
    simp only [List.nil_append] at hk
    have hl1 : ys.length ≠ 1 := by
      intro h1
      rw [h1] at hlen
      generalize fn.results.toList = rs at hlen hne
      match rs, hlen, hne with
      | [r], _, hne => exact hne r rfl
    refine ⟨.tuple ys.toArray, .tuple vs, ?_, .inr (.inl ⟨vs, ys.toArray, rfl, rfl, by simpa using relVs_of hA hk.1⟩), hk.2⟩
    simp only [Sem.run_bind, Sem.run_map, hys, Result.andThen_ok, Sem.run_pure]
    congr 1
    rw [dif_neg (by simpa using hl1)]

theorem env0_rel {args : List AV} {xs : Array Value} (h : relA g w args xs.toList) (k : Nat) : relE g w (env0 args) (xs ++ Array.replicate k Go.undef) := by
  intro t
  unfold env0
  by_cases ht : t < args.length
  · have ht' : t < xs.size := by have := h.1; simp at this; omega
    have h1 : (xs ++ Array.replicate k Go.undef).getD t Go.undef = xs[t] := by
      simp [Array.getD, Array.getElem_append_left ht']; omega
    rw [h1, List.getD_eq_getElem?_getD, List.getElem?_eq_getElem ht]
    exact h.2 t _ _ (List.getElem?_eq_getElem ht) (by simp [ht'])
  · rw [List.getD_eq_getElem?_getD, List.getElem?_eq_none (by omega)]
    exact .inl rfl

/-- A FUNCTION's CONTRACT OUT OF ITS TEXT. -/
theorem tcalls_of {f : FuncId} {fn : Func} {c : Code} {args : List AV} {K : AV → AST → Prop} (hok : FnOk P f) (hf : P.funcs[f]? = some fn) (hb : fn.body = some c) (hd : dstOk fn.ntmps c = true) (hm : P.follows .mixedOrders = true) (hn : args.length ≤ fn.ntmps)
    (h : (∀ v ∈ args, lenOk v) → awp P c (bodyQ P fn K) (env0 args) σ) : TCalls P f args σ K := by
  refine ⟨hok, fun g w xs hI hA => ?_⟩
  have hlen : ∀ v ∈ args, lenOk v := by
    intro v hv
    obtain ⟨i, hi⟩ := List.mem_iff_getElem?.1 hv
    have hlt : i < xs.toList.length := by rw [← hA.1]; exact (List.getElem?_eq_some_iff.1 hi).1
    exact lenOk_of (hA.2 i v _ hi (List.getElem?_eq_getElem hlt))
  refine calls_of_wp hf hb ?_
  have hsz : xs.size = args.length := by have := hA.1; simp at this; omega
  have := awp_sound (r0 := none) (a := { tmps := xs ++ Array.replicate (fn.ntmps - xs.size) Go.undef, defers := [] }) hm c hd (h hlen) hI (env0_rel hA _) (by simp; omega)
  refine wp_mono (wpIn_wide.1 this) ?_
  rintro e a' w' ⟨g', τ', σ', hE, hI', hr', hn', hds, hq⟩
  have fin : resW P fn.results.toList τ' σ' (fun v => K v σ') → a'.defers = [] ∧ ∃ v, (results fn a'.tmps).run P w' = .ok v w' ∧ ∃ x g' v' σ', Ending.returned v = .returned x ∧ Ev g w g' w' ∧ Inv g' σ' w' ∧ relV g' w' v' x ∧ K v' σ' := by
    intro hq
    obtain ⟨y, v, hy, hv, hk⟩ := resW_run hI' hr' hq
    exact ⟨hds, y, hy, y, g', v, σ', rfl, hE, hI', hv, hk⟩
  cases e with
  | normal => exact fin hq
  | ret => exact fin hq
  | exit id => exact hq.elim
  | goto l => exact hq.elim
  | panic ch => exact hq.elim
  | outgrown => exact hq.elim

end Go.Aff

/- Walking: the abstract wp by rewriting, head first. -/
namespace Go.Aff
set_option linter.unusedVariables false
set_option linter.unusedSimpArgs false

variable {P : Program} {σ : AST} {τ : Env} {ops : Array Oper} {K : AV → AST → Prop} {KV : AV → Prop} {KE : Env → AST → Prop} {Q : Exit → Env → AST → Prop}

/-- A rewriting by this theorem keeps its proof. -/
theorem nr.{u} {α : Sort u} {a b : α} (h : a = b) : a = b := h

/-! ### Rest: what a rewriting must not enter yet -/
class Stop.{u} (α : Type u) where
  x : α
def Later [s : Stop Prop] : Prop := s.x
def Lam [s : Stop (AV → AST → Prop)] : AV → AST → Prop := s.x
def LamE [s : Stop (Env → AST → Prop)] : Env → AST → Prop := s.x
def LamS [s : Stop (AST → Prop)] : AST → Prop := s.x
def LamA {α : Type} [s : Stop (α → Prop)] : α → Prop := s.x
def At (K : AV → AST → Prop) (σ : AST) : AV → Prop := fun v => K v σ
def AtS (K : AV → AST → Prop) (v : AV) : AST → Prop := fun σ => K v σ
theorem lam_app {F : AV → AST → Prop} {v : AV} {σ : AST} : @Lam ⟨F⟩ v σ = F v σ := nr rfl
theorem lamE_app {F : Env → AST → Prop} {τ : Env} {σ : AST} : @LamE ⟨F⟩ τ σ = F τ σ := nr rfl
theorem lamA_app {α : Type} {F : α → Prop} {v : α} : @LamA _ ⟨F⟩ v = F v := nr rfl
theorem at_app {K : AV → AST → Prop} {v : AV} {σ : AST} : At K σ v = K v σ := nr rfl
theorem atS_app {K : AV → AST → Prop} {v : AV} {σ : AST} : AtS K v σ = K v σ := nr rfl
theorem later_intro {T : Prop} (h : T) : @Later ⟨T⟩ := h
theorem and_later {T : Prop} : (True ∧ @Later ⟨T⟩) = T := by simp [Later]
theorem arr_later {T : Prop} : (True → @Later ⟨T⟩) = T := by simp [Later]
theorem side_later {A T : Prop} (ha : A) (h : T) : A ∧ @Later ⟨T⟩ := ⟨ha, h⟩
theorem arr_intro {A T : Prop} (h : A → T) : A → @Later ⟨T⟩ := h

/-! ### Control -/
theorem awp_seq_k {a b : Code} (h : ∀ K : Env → AST → Prop, (∀ τ σ, awp P b Q τ σ → K τ σ) → awp P a (thenQ K Q) τ σ) : awp P (.seq a b) Q τ σ :=
  h _ fun _ _ h => h

theorem awp_region {id : Nat} (h : awpSeq P ops ops.toList τ σ (Q .normal)) : awp P (.region id ops false) Q τ σ := h
theorem awp_region_k {id : Nat} (h : awpSeq P ops ops.toList τ σ KE) : awp P (.region id ops false) (thenQ KE Q) τ σ := h
theorem awp_draw {id : Nat} (ord : List Nat) (ho : ordOk P ops ord = true) (h : (∀ t, lenOk (τ t)) → awpD P ops ord [] τ σ (Q .normal)) : awp P (.region id ops true) Q τ σ := .inl ⟨ord, ho, h⟩
theorem awp_drawTree {id : Nat} (T : Tr) (ho : trOk P ops T = true) (h : (∀ t, lenOk (τ t)) → awpT P ops T [] τ σ (Q .normal)) : awp P (.region id ops true) Q τ σ := .inr ⟨T, ho, h⟩
theorem awp_cond {c : Operand} {a b : Code} (h : boolW (ev τ c) (awp P a Q τ σ) (awp P b Q τ σ)) : awp P (.cond c a b) Q τ σ := h
theorem awp_block {id : Nat} {c : Code} (h : awp P c (blockQ id Q) τ σ) : awp P (.block id c) Q τ σ := h
theorem awp_skip (h : Q .normal τ σ) : awp P .skip Q τ σ := h
theorem awp_ret (h : Q .ret τ σ) : awp P .ret Q τ σ := h
theorem awp_exit {id : Nat} (h : Q (.exit id) τ σ) : awp P (.exit id) Q τ σ := h

/-! ### Types, told by functions -/
def isIntT (P : Program) (t : TypeId) : Bool := match P.underlying t with | some (.int _) => true | _ => false
def kindT (P : Program) (t : TypeId) : IntKind := match P.underlying t with | some (.int k) => k | _ => .i64
def isSliceT (P : Program) (t : TypeId) : Bool := match P.underlying t with | some (.slice _) => true | _ => false
def elemT (P : Program) (t : TypeId) : TypeId := match P.underlying t with | some (.slice e) => e | some (.array _ e) => e | _ => 0
def isStructT (P : Program) (t : TypeId) : Bool := match P.underlying t with | some (.struct _) => true | _ => false
theorem isIntT_iff {t : TypeId} (h : isIntT P t = true) : P.underlying t = some (.int (kindT P t)) := by
  unfold isIntT at h; unfold kindT; split at h <;> simp_all
theorem isSliceT_iff {t : TypeId} (h : isSliceT P t = true) : P.underlying t = some (.slice (elemT P t)) := by
  unfold isSliceT at h; unfold elemT; split at h <;> simp_all
theorem isStructT_iff {t : TypeId} (h : isStructT P t = true) : ∃ fs, P.underlying t = some (.struct fs) := by
  unfold isStructT at h; split at h <;> simp_all

/-! ### Rewriting, head first -/
theorem seq_nil : awpSeq P ops [] τ σ KE = KE τ σ := nr rfl
theorem seq_cons {o : Oper} {r : List Oper} : awpSeq P ops (o :: r) τ σ KE = stepW P ops o τ σ (@Lam ⟨fun v σ' => awpSeq P ops r (τ.putO o.dst v) σ' KE⟩) := nr rfl

theorem step_plain {dst : Option Nat} {op : Op} {t : TypeId} {pos : String} {after : Array Edge} : stepW P ops ⟨dst, op, t, pos, after, none⟩ τ σ K = opW P (ev τ) ⟨dst, op, t, pos, after, none⟩ σ K := nr rfl

def guardW (d : Option Nat) (τ : Env) (want : Bool) (T E : Prop) : Prop := match d with
  | none => False
  | some d => match τ d with
    | .bool b => (b = want → T) ∧ (b = !want → E)
    | .tuple [] => E
    | _ => False

def gdst (ops : Array Oper) (j : Nat) : Option Nat := (ops[j]?).bind (·.dst)
theorem gdst_zero {o : Oper} {l : List Oper} : gdst ⟨o :: l⟩ 0 = o.dst := nr rfl
theorem gdst_succ {o : Oper} {l : List Oper} {n : Nat} : gdst ⟨o :: l⟩ (n + 1) = gdst ⟨l⟩ n := by simp [gdst]
theorem step_guard {dst : Option Nat} {op : Op} {t : TypeId} {pos : String} {after : Array Edge} {j : Nat} {want : Bool} :
    stepW P ops ⟨dst, op, t, pos, after, some (j, want)⟩ τ σ K = guardW (gdst ops j) τ want (@Later ⟨opW P (ev τ) ⟨dst, op, t, pos, after, some (j, want)⟩ σ K⟩) (@Later ⟨K (.tuple []) σ⟩) := by
  unfold stepW guardW gdst Later; rfl

def guardV (v : AV) (want : Bool) (T E : Prop) : Prop := match v with
  | .bool b => (b = want → T) ∧ (b = !want → E)
  | .tuple [] => E
  | _ => False

theorem guardW_some {d : Nat} {want : Bool} {T E : Prop} : guardW (some d) τ want T E = guardV (τ d) want T E := nr rfl
theorem guardV_skip {want : Bool} {T E : Prop} : guardV (.tuple []) want T (@Later ⟨E⟩) = E := by simp [guardV, Later]
theorem guardV_tt {T E : Prop} : guardV (.bool true) true (@Later ⟨T⟩) E = T := by simp [guardV, Later]
theorem guardV_tf {T E : Prop} : guardV (.bool true) false T (@Later ⟨E⟩) = E := by simp [guardV, Later]
theorem guardV_ft {T E : Prop} : guardV (.bool false) true T (@Later ⟨E⟩) = E := by simp [guardV, Later]
theorem guardV_ff {T E : Prop} : guardV (.bool false) false (@Later ⟨T⟩) E = T := by simp [guardV, Later]

theorem boolW_t {T E : Prop} : boolW (.bool true) (@Later ⟨T⟩) E = T := by simp [boolW, Later]
theorem boolW_f {T E : Prop} : boolW (.bool false) T (@Later ⟨E⟩) = E := by simp [boolW, Later]

section
variable {dst : Option Nat} {ty : TypeId} {pos : String} {after : Array Edge} {gd : Option (Nat × Bool)} {ρ : Operand → AV}
theorem op_move {x : Operand} : opW P ρ ⟨dst, .move x, ty, pos, after, gd⟩ σ K = K (ρ x) σ := nr rfl
theorem op_assign {x : Operand} : opW P ρ ⟨dst, .assign x, ty, pos, after, gd⟩ σ K = K (ρ x) σ := nr rfl
theorem op_pick {c a b : Operand} : opW P ρ ⟨dst, .pick c a b, ty, pos, after, gd⟩ σ K = boolW (ρ c) (@Later ⟨K (ρ a) σ⟩) (@Later ⟨K (ρ b) σ⟩) := nr rfl
theorem op_alloc {e : TypeId} : opW P ρ ⟨dst, .alloc e, ty, pos, after, gd⟩ σ K = (ZeroOf P e (zeroA P 12 e) ∧ @Later ⟨K (.ptr (some (σ.objs.length, []))) (σ.push (.cells (zeroA P 12 e)))⟩) := nr rfl
theorem op_box {e : TypeId} {x : Operand} : opW P ρ ⟨dst, .box e x, ty, pos, after, gd⟩ σ K = ((ρ x).known = true ∧ @Later ⟨K (.ptr (some (σ.objs.length, []))) (σ.push (.cells (ρ x)))⟩) := nr rfl
theorem op_build {t : TypeId} {ps : Array (Nat × Operand)} : opW P ρ ⟨dst, .build t ps, ty, pos, after, gd⟩ σ K =
    (ZeroOf P t (zeroA P 12 t) ∧ (zeroA P 12 t).isAgg = true ∧ Built P t ∧ fillW P t (ps.toList.map fun p => (p.1, ρ p.2)) (zeroA P 12 t) (At K σ)) := nr rfl
theorem op_buildSlice {t n : Nat} {ps : Array (Nat × Operand)} : opW P ρ ⟨dst, .buildSlice t n ps, ty, pos, after, gd⟩ σ K = buildSliceW P t n (ps.toList.map fun p => (p.1, ρ p.2)) (At K σ) := nr rfl
theorem op_load {t : TypeId} {a : Operand} : opW P ρ ⟨dst, .load t a, ty, pos, after, gd⟩ σ K = loadW P σ t (ρ a) (At K σ) := nr rfl
theorem op_store {t : TypeId} {a x : Operand} : opW P ρ ⟨dst, .store t a x, ty, pos, after, gd⟩ σ K = storeW P σ t (ρ a) (ρ x) (AtS K .undef) := nr rfl
def nilCheckW (v : AV) (K : AV → Prop) : Prop := match v with
  | .ptr (some q) => K (.ptr (some q))
  | .eptr v => K (.eptr v)
  | .fn (.func f) a b => K (.fn (.func f) a b)
  | _ => False
theorem op_nilCheck {x : Operand} : opW P ρ ⟨dst, .nilCheck x, ty, pos, after, gd⟩ σ K = nilCheckW (ρ x) (At K σ) := nr rfl
theorem op_binOp {op : BinOp} {t yt : TypeId} {x y : Operand} : opW P ρ ⟨dst, .binOp op t x y yt, ty, pos, after, gd⟩ σ K = binW P op t (ρ x) (ρ y) (At K σ) := nr rfl
theorem op_unOp {op : UnOp} {t : TypeId} {x : Operand} : opW P ρ ⟨dst, .unOp op t x, ty, pos, after, gd⟩ σ K = unW op (ρ x) (At K σ) := nr rfl
theorem op_convert {s d : TypeId} {x : Operand} : opW P ρ ⟨dst, .convert s d x, ty, pos, after, gd⟩ σ K = convW P s d (ρ x) σ K := nr rfl
theorem op_makeInterface {t : TypeId} {x : Operand} : opW P ρ ⟨dst, .makeInterface t x, ty, pos, after, gd⟩ σ K = ((∃ d, P.underlying t = some d ∧ ∀ ms, d ≠ .interface ms) ∧ (ρ x).known = true ∧ @Later ⟨K (.iface t (ρ x)) σ⟩) := nr rfl
theorem op_makeFunc {f : Fn} {first cap : Array Operand} : opW P ρ ⟨dst, .makeFunc f first cap, ty, pos, after, gd⟩ σ K =
    ((∀ x ∈ first.toList ++ cap.toList, (ρ x).known = true) ∧ @Later ⟨K (.fn f (first.toList.map ρ) (cap.toList.map ρ)) σ⟩) := nr rfl
theorem op_slice {t : TypeId} {x : Operand} {lo hi mx : Option Operand} : opW P ρ ⟨dst, .slice t x lo hi mx, ty, pos, after, gd⟩ σ K = sliceW P t (ρ x) (lo.map ρ) (hi.map ρ) (mx.map ρ) (At K σ) := nr rfl
theorem op_fieldAddr {t : TypeId} {x : Operand} {i : Nat} (h : isStructT P t = true) : opW P ρ ⟨dst, .fieldAddr t x i, ty, pos, after, gd⟩ σ K = fieldAddrW P σ t (ρ x) i (At K σ) := by
  simp only [opW, isStructT_iff h, true_and]; rfl
theorem op_field {t : TypeId} {x : Operand} {i : Nat} (h : isStructT P t = true) : opW P ρ ⟨dst, .field t x i, ty, pos, after, gd⟩ σ K = fieldW P t (ρ x) i (At K σ) := by
  simp only [opW, isStructT_iff h, true_and]; rfl
theorem op_indexAddr {t : TypeId} {x i : Operand} : opW P ρ ⟨dst, .indexAddr t x i, ty, pos, after, gd⟩ σ K = indexAddrW P σ t (ρ x) (ρ i) (At K σ) := nr rfl
theorem op_index {t : TypeId} {x i : Operand} : opW P ρ ⟨dst, .index t x i, ty, pos, after, gd⟩ σ K = indexW P t (ρ x) (ρ i) (At K σ) := nr rfl
def extractW (v : AV) (i : Nat) (K : AV → Prop) : Prop := match v with
  | .tuple vs => match vs[i]? with
    | some v => K v
    | none => False
  | _ => False
theorem op_extract {x : Operand} {i : Nat} : opW P ρ ⟨dst, .extract x i, ty, pos, after, gd⟩ σ K = extractW (ρ x) i (At K σ) := nr rfl
theorem op_append {s x : Operand} {ts : Array TypeId} : opW P ρ ⟨dst, .call ⟨.builtin .append, #[s, x], ts⟩, ty, pos, after, gd⟩ σ K = appendW P ts (ρ s) (ρ x) σ K := nr rfl
theorem op_len {x : Operand} {ts : Array TypeId} : opW P ρ ⟨dst, .call ⟨.builtin .len, #[x], ts⟩, ty, pos, after, gd⟩ σ K = lenW P ts (ρ x) (At K σ) := nr rfl
theorem op_max {xs : Array Operand} {ts : Array TypeId} : opW P ρ ⟨dst, .call ⟨.builtin .max, xs, ts⟩, ty, pos, after, gd⟩ σ K = mmW true (xs.toList.map ρ) (At K σ) := nr rfl
theorem op_min {xs : Array Operand} {ts : Array TypeId} : opW P ρ ⟨dst, .call ⟨.builtin .min, xs, ts⟩, ty, pos, after, gd⟩ σ K = mmW false (xs.toList.map ρ) (At K σ) := nr rfl
def callV (P : Program) (f : AV) (args : List AV) (σ : AST) (K : AV → AST → Prop) : Prop := match f with
  | .fn (.func k) first cap => TCalls P k (first ++ args ++ cap) σ K
  | .fn (.yield l) [] [] => YCalls P l args σ K
  | _ => False
theorem op_call {f : Operand} {xs : Array Operand} {ts : Array TypeId} : opW P ρ ⟨dst, .call ⟨.value f, xs, ts⟩, ty, pos, after, gd⟩ σ K = callV P (ρ f) (xs.toList.map ρ) σ K := nr rfl
end

theorem callV_yield {l : Nat} {args : List AV} : callV P (.fn (.yield l) [] []) args σ K = YCalls P l args σ K := nr rfl
theorem callV_fn {k : FuncId} {first cap args : List AV} : callV P (.fn (.func k) first cap) args σ K = TCalls P k (first ++ args ++ cap) σ K := nr rfl


/-! ### Values of slots -/
theorem ev_tmp {t : Nat} : ev τ (.tmp t) = τ t := nr rfl
theorem ev_const {v : Value} : ev τ (.const v) = absV v := nr rfl
theorem ev_func {f : FuncId} : ev τ (.func f) = .fn (.func f) [] [] := nr rfl
theorem putO_some {d : Nat} {v : AV} : τ.putO (some d) v = τ.put d v := nr rfl
theorem putO_none {v : AV} : τ.putO none v = τ := nr rfl
theorem put_at {d t : Nat} {v : AV} : (τ.put d v) t = if t = d then v else τ t := nr rfl
theorem env0_at {args : List AV} {t : Nat} : env0 args t = args.getD t .undef := nr rfl
theorem absV_int {k : IntKind} {n : Int} : absV (.int k n) = .int k n := nr rfl
theorem absV_bool {b : Bool} : absV (.bool b) = .bool b := nr rfl
theorem absV_str {l : List UInt8} (h : l.length ≤ 1000000) : absV (.string ⟨l.toArray⟩) = .str l := by
  simp only [absV]; rw [if_pos (by unfold maxL; simpa using Nat.le_trans h (by decide))]
theorem absV_nilptr : absV (.pointer none) = .ptr none := nr rfl
theorem absV_nilslice : absV (.slice none 0 0) = .slice .full [] := nr rfl
theorem absV_nilmap : absV (.map none) = .mp none := nr rfl
theorem absV_nilfn : absV .nilFunc = .nilFn := nr rfl
theorem absV_niliface : absV .nilIface = .nilIface := nr rfl

end Go.Aff

