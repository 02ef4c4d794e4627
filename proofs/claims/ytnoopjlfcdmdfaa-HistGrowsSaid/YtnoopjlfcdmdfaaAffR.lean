/- Code, loops, calls: the abstract wp, and that it tells the truth. -/
import Derived.Test.YtnoopjlfcdmdfaaAffQ
import Derived.Sort.LoopGhostIn
namespace Go.Aff
set_option linter.unusedVariables false
set_option linter.unusedSimpArgs false

variable {g g' : G} {w w' : World} {σ σ' : AST} {P : Program} {ops : Array Oper}

def awpSeq (P : Program) (ops : Array Oper) : List Oper → Env → AST → (Env → AST → Prop) → Prop
  | [], τ, σ, K => K τ σ
  | o :: r, τ, σ, K => stepW P ops o τ σ fun v σ' => awpSeq P ops r (τ.putO o.dst v) σ' K

theorem seq_sound {r0 : Option Nat} {n : Nat} {g0 : G} {w0 : World} {ds : List Deferred} {Q : Exit → Env → AST → Prop} (hdst : ∀ (j : Nat) o, ops[j]? = some o → ∀ k, o.dst = some k → k < n) :
    ∀ (r : List Oper) (k : Nat) (g : G) (w : World) (a : Act) (τ : Env) (σ : AST), ops.toList.drop k = r → awpSeq P ops r τ σ (Q .normal) → Ev g0 w0 g w → Inv g σ w → relE g w τ a.tmps → a.tmps.size = n → a.defers = ds →
      wpOpsIn (FR r0) 0 P ops (Lift n g0 w0 ds Q) (List.range' k r.length) a w
  | [], k, g, w, a, τ, σ, hk, h, hE, hI, hr, hn, hd => ⟨g, τ, σ, hE, hI, hr, hn, hd, h⟩
  | o :: r, k, g, w, a, τ, σ, hk, h, hE, hI, hr, hn, hd => by
    have ho : ops[k]? = some o := by
      have : (ops.toList.drop k)[0]? = some o := by rw [hk]; rfl
      simpa using this
    have hk' : ops.toList.drop (k + 1) = r := by
      have h0 : (ops.toList.drop k).drop 1 = r := by rw [hk]; rfl
      rw [← h0, List.drop_drop]
    simp only [List.length_cons, List.range'_succ]
    rw [wpOpsIn_cons]
    unfold wpOpIn
    rw [ho]
    simp only [awpSeq] at h
    exact step_sound hI hr h (fun g' w' v x σ' hE' hI' hv hh =>
      seq_sound hdst r (k + 1) g' w' _ _ σ' hk' hh (hE.trans hE') hI' (relE_put (relE_mono hE' hr) (fun q hq => by rw [hn]; exact hdst k o ho q hq) hv) (by rw [size_put, hn]) (by rw [put_defers, hd]))

def thenQ (next : Env → AST → Prop) (Q : Exit → Env → AST → Prop) : Exit → Env → AST → Prop
  | .normal, τ, σ => next τ σ
  | e, τ, σ => Q e τ σ

def blockQ (id : Nat) (Q : Exit → Env → AST → Prop) : Exit → Env → AST → Prop
  | .exit id', τ, σ => if id' = id then Q .normal τ σ else Q (.exit id') τ σ
  | e, τ, σ => Q e τ σ

def noGotoQ (Q : Exit → Env → AST → Prop) : Exit → Env → AST → Prop
  | .goto _, _, _ => False
  | e, τ, σ => Q e τ σ

def awp (P : Program) : Code → (Exit → Env → AST → Prop) → Env → AST → Prop
  | .skip, Q, τ, σ => Q .normal τ σ
  | .region _ ops false, Q, τ, σ => awpSeq P ops ops.toList τ σ (Q .normal)
  | .region _ ops true, Q, τ, σ => ∃ ord, ordOk P ops ord = true ∧ ((∀ t, lenOk (τ t)) → awpD P ops ord [] τ σ (Q .normal))
  | .seq a b, Q, τ, σ => awp P a (thenQ (fun τ σ => awp P b Q τ σ) Q) τ σ
  | .cond c a b, Q, τ, σ => boolW (ev τ c) (awp P a Q τ σ) (awp P b Q τ σ)
  | .block id c, Q, τ, σ => awp P c (blockQ id Q) τ σ
  | .loop c, Q, τ, σ => ∃ (I : Nat → Env → AST → Prop) (n : Nat), I n τ σ ∧ ∀ n τ σ, I n τ σ → awp P c (thenQ (fun τ' σ' => ∃ m, m < n ∧ I m τ' σ') Q) τ σ
  | .exit id, Q, τ, σ => Q (.exit id) τ σ
  | .scope c, Q, τ, σ => awp P c (noGotoQ Q) τ σ
  | .label _, Q, τ, σ => Q .normal τ σ
  | .goto l, Q, τ, σ => Q (.goto l) τ σ
  | .ret, Q, τ, σ => Q .ret τ σ
  | _, _, _, _ => False

def dstOk (n : Nat) : Code → Bool
  | .region _ ops _ => ops.toList.all fun o => match o.dst with
    | some k => decide (k < n)
    | none => true
  | .seq a b => dstOk n a && dstOk n b
  | .cond _ a b => dstOk n a && dstOk n b
  | .block _ c => dstOk n c
  | .loop c => dstOk n c
  | .scope _ => false
  | .rangeFunc .. => false
  | _ => true

theorem dst_of {n : Nat} (h : (ops.toList.all fun o => match o.dst with | some k => decide (k < n) | none => true) = true) : ∀ (j : Nat) o, ops[j]? = some o → ∀ k, o.dst = some k → k < n := by
  intro j o ho k hk
  rw [List.all_eq_true] at h
  have := h o (List.mem_iff_getElem?.2 ⟨j, by simpa using ho⟩)
  rw [hk] at this
  simpa using this

theorem Lift.trans {n : Nat} {ds : List Deferred} {Q : Exit → Env → AST → Prop} {e : Exit} {a : Act} {w0 w1 : World} {g0 g1 : G} (hE : Ev g0 w0 g1 w1) (h : Lift n g1 w1 ds Q e a w) : Lift n g0 w0 ds Q e a w := by
  obtain ⟨g2, τ, σ, h1, h2⟩ := h
  exact ⟨g2, τ, σ, hE.trans h1, h2⟩

theorem awp_sound {r0 : Option Nat} {n : Nat} (hm : P.follows .mixedOrders = true) : ∀ (c : Code) {Q : Exit → Env → AST → Prop} {τ : Env} {σ : AST} {g : G} {w : World} {a : Act}, dstOk n c = true → awp P c Q τ σ → Inv g σ w → relE g w τ a.tmps → a.tmps.size = n →
    c.wpIn (FR r0) 0 P (Lift n g w a.defers Q) a w
  | .skip, Q, τ, σ, g, w, a, _, h, hI, hr, hn => wpIn_skip ⟨g, τ, σ, Ev.refl _ _, hI, hr, hn, rfl, h⟩
  | .region id ops false, Q, τ, σ, g, w, a, hd, h, hI, hr, hn => by
    refine wpIn_region ?_
    have := seq_sound (r0 := r0) (n := n) (g0 := g) (w0 := w) (ds := a.defers) (Q := Q) (dst_of (by simpa [dstOk] using hd)) ops.toList 0 g w a τ σ rfl h (Ev.refl _ _) hI hr hn rfl
    rw [List.range_eq_range']
    simpa using this
  | .region id ops true, Q, τ, σ, g, w, a, hd, h, hI, hr, hn => by
    obtain ⟨ord, hord, h⟩ := h
    exact region_draw_sound ord hord (dst_of (by simpa [dstOk] using hd)) hm (h fun t => lenOk_of (hr t)) hI hr hn
  | .seq x y, Q, τ, σ, g, w, a, hd, h, hI, hr, hn => by
    simp only [dstOk, Bool.and_eq_true] at hd
    simp only [awp] at h
    refine wpIn_seq (wpIn_mono (awp_sound hm x hd.1 h hI hr hn) ?_)
    rintro e a' w' ⟨g', τ', σ', hE, hI', hr', hn', hds, hq⟩
    cases e with
    | normal =>
      have := awp_sound (r0 := r0) hm y hd.2 hq hI' hr' hn'
      refine wpIn_mono this fun e a2 w2 hl => ?_
      rw [hds] at hl
      exact Lift.trans hE hl
    | exit id => exact ⟨g', τ', σ', hE, hI', hr', hn', hds, hq⟩
    | goto l => exact ⟨g', τ', σ', hE, hI', hr', hn', hds, hq⟩
    | ret => exact ⟨g', τ', σ', hE, hI', hr', hn', hds, hq⟩
    | panic ch => exact ⟨g', τ', σ', hE, hI', hr', hn', hds, hq⟩
    | outgrown => exact ⟨g', τ', σ', hE, hI', hr', hn', hds, hq⟩
  | .cond c x y, Q, τ, σ, g, w, a, hd, h, hI, hr, hn => by
    simp only [dstOk, Bool.and_eq_true] at hd
    simp only [awp, boolW] at h
    split at h
    · rename_i b hb
      have hv := ev_rel hr c
      rw [hb] at hv
      exact wpIn_cond_split (relV_bool hv) (fun e => awp_sound hm x hd.1 (h.1 e) hI hr hn) (fun e => awp_sound hm y hd.2 (h.2 e) hI hr hn)
    · exact h.elim
  | .block id c, Q, τ, σ, g, w, a, hd, h, hI, hr, hn => by
    simp only [dstOk] at hd
    simp only [awp] at h
    refine wpIn_block (wpIn_mono (awp_sound hm c hd h hI hr hn) ?_)
    rintro e a' w' ⟨g', τ', σ', hE, hI', hr', hn', hds, hq⟩
    cases e with
    | exit id' =>
      simp only [Exit.inBlock, blockQ] at hq ⊢
      split
      · rename_i e; rw [if_pos e] at hq; exact ⟨g', τ', σ', hE, hI', hr', hn', hds, hq⟩
      · rename_i e; rw [if_neg e] at hq; exact ⟨g', τ', σ', hE, hI', hr', hn', hds, hq⟩
    | normal => exact ⟨g', τ', σ', hE, hI', hr', hn', hds, hq⟩
    | goto l => exact ⟨g', τ', σ', hE, hI', hr', hn', hds, hq⟩
    | ret => exact ⟨g', τ', σ', hE, hI', hr', hn', hds, hq⟩
    | panic ch => exact ⟨g', τ', σ', hE, hI', hr', hn', hds, hq⟩
    | outgrown => exact ⟨g', τ', σ', hE, hI', hr', hn', hds, hq⟩
  | .loop c, Q, τ, σ, g, w, a, hd, h, hI, hr, hn => by
    simp only [dstOk] at hd
    simp only [awp] at h
    obtain ⟨I, m0, h0, hround⟩ := h
    refine wpIn_loop_ghost (fun k a' w' => ∃ g' τ' σ', Ev g w g' w' ∧ Inv g' σ' w' ∧ relE g' w' τ' a'.tmps ∧ a'.tmps.size = n ∧ a'.defers = a.defers ∧ I k τ' σ') m0
      ⟨g, τ, σ, Ev.refl _ _, hI, hr, hn, rfl, h0⟩ ?_
    rintro k a1 w1 ⟨g1, τ1, σ1, hE1, hI1, hr1, hn1, hd1, h1⟩
    refine wpIn_mono (awp_sound hm c hd (hround k τ1 σ1 h1) hI1 hr1 hn1) ?_
    rintro e a' w' ⟨g', τ', σ', hE, hI', hr', hn', hds, hq⟩
    cases e with
    | normal => obtain ⟨m, hm, hq⟩ := hq; exact ⟨m, hm, g', τ', σ', hE1.trans hE, hI', hr', hn', hds.trans hd1, hq⟩
    | exit id => exact ⟨g', τ', σ', hE1.trans hE, hI', hr', hn', hds.trans hd1, hq⟩
    | goto l => exact ⟨g', τ', σ', hE1.trans hE, hI', hr', hn', hds.trans hd1, hq⟩
    | ret => exact ⟨g', τ', σ', hE1.trans hE, hI', hr', hn', hds.trans hd1, hq⟩
    | panic ch => exact ⟨g', τ', σ', hE1.trans hE, hI', hr', hn', hds.trans hd1, hq⟩
    | outgrown => exact ⟨g', τ', σ', hE1.trans hE, hI', hr', hn', hds.trans hd1, hq⟩
  | .exit id, Q, τ, σ, g, w, a, _, h, hI, hr, hn => wpIn_exit ⟨g, τ, σ, Ev.refl _ _, hI, hr, hn, rfl, h⟩
  | .scope c, Q, τ, σ, g, w, a, hd, h, hI, hr, hn => by simp [dstOk] at hd
  | .label _, Q, τ, σ, g, w, a, _, h, hI, hr, hn => wpIn_label ⟨g, τ, σ, Ev.refl _ _, hI, hr, hn, rfl, h⟩
  | .goto l, Q, τ, σ, g, w, a, _, h, hI, hr, hn => wpIn_goto ⟨g, τ, σ, Ev.refl _ _, hI, hr, hn, rfl, h⟩
  | .ret, Q, τ, σ, g, w, a, _, h, hI, hr, hn => wpIn_ret ⟨g, τ, σ, Ev.refl _ _, hI, hr, hn, rfl, h⟩
  | .rangeFunc .., Q, τ, σ, g, w, a, hd, h, hI, hr, hn => by simp [dstOk] at hd
  | .refuse _, Q, τ, σ, g, w, a, hd, h, hI, hr, hn => by simp [awp] at h

/-! ### Calls -/

def oneRes (P : Program) (τ : Env) (σ : AST) : ResultVar → (AV → Prop) → Prop
  | .tmp t, K => K (τ t)
  | .cell a t, K => loadW P σ t (τ a) K

def resList (P : Program) (τ : Env) (σ : AST) : List ResultVar → List AV → (List AV → Prop) → Prop
  | [], acc, K => K acc
  | r :: rs, acc, K => oneRes P τ σ r fun v => resList P τ σ rs (acc ++ [v]) K

/-- What a function hands back. -/
def resW (P : Program) (rs : List ResultVar) (τ : Env) (σ : AST) (K : AV → Prop) : Prop := match rs with
  | [r] => oneRes P τ σ r K
  | rs => resList P τ σ rs [] fun vs => (∀ v ∈ vs, v.known = true) ∧ K (.tuple vs)

def bodyQ (P : Program) (fn : Func) (K : AV → AST → Prop) : Exit → Env → AST → Prop := fun e τ σ => match e with
  | .normal | .ret => resW P fn.results.toList τ σ fun v => K v σ
  | _ => False

def env0 (args : List AV) : Env := fun t => args.getD t .undef

theorem load_run (hI : Inv g σ w) {t : TypeId} {a : AV} {x : Value} {K : AV → Prop} (ha : relV g w a x) (h : loadW P σ t a K) :
    ∃ b o y v, x = .pointer (some ⟨b, o, none⟩) ∧ (loadVar t ⟨b, o, none⟩).run P w = .ok y w ∧ relV g w v y ∧ K v := by
  unfold loadW at h
  split at h
  · rename_i i p
    split at h
    · rename_i v hobj
      split at h
      · rename_i u hat
        obtain ⟨b, sh, o, hg, ho, rfl⟩ := relV_ptr ha
        obtain ⟨_, _, c, e, hc, hr, hs⟩ := obj_cells hI hobj hg
        obtain ⟨cu, hcu, hcell, _⟩ := at_rel hr hat (hs ▸ ho)
        have hrd : rd w b o cu := ⟨c, e, (0, 0), hc, fun j hj => by rw [← hcell j hj]; simp⟩
        obtain ⟨y, hy, hv⟩ := run_loadVar' h.1 hcu hrd
        exact ⟨b, o, y, u, rfl, hy, hv, h.2⟩
      · exact h.elim
    · exact h.elim
  · rename_i v
    obtain ⟨b, o, cv, rfl, hv, hr, _⟩ := relV_eptr ha
    obtain ⟨y, hy, hv'⟩ := run_loadVar' h.1 hv hr
    exact ⟨b, o, y, v, rfl, hy, hv', h.2⟩
  · exact h.elim

def resRun (tmps : Array Value) : ResultVar → Sem Value
  | .tmp t => pure (tmps.getD t Go.undef)
  | .cell a t => do loadVar t (← asAddr (tmps.getD a Go.undef))

theorem oneRes_run (hI : Inv g σ w) {τ : Env} {tmps : Array Value} (hr : relE g w τ tmps) {r : ResultVar} {K : AV → Prop} (h : oneRes P τ σ r K) : ∃ y v, (resRun tmps r).run P w = .ok y w ∧ relV g w v y ∧ K v := by
  cases r with
  | tmp t => exact ⟨_, _, rfl, hr t, h⟩
  | cell a t =>
    obtain ⟨b, o, y, v, hx, hrun, hv, hk⟩ := load_run hI (hr a) h
    exact ⟨y, v, by simp only [resRun, Sem.run_bind, hx, asAddr, Sem.run_pure, Result.andThen_ok, hrun], hv, hk⟩

theorem resList_run (hI : Inv g σ w) {τ : Env} {tmps : Array Value} (hr : relE g w τ tmps) : ∀ (rs : List ResultVar) (acc : List AV) (K : List AV → Prop), resList P τ σ rs acc K →
    ∃ ys vs, (rs.mapM (resRun tmps)).run P w = .ok ys w ∧ ys.length = rs.length ∧ relA g w vs ys ∧ K (acc ++ vs)
  | [], acc, K, h => ⟨[], [], by simp, rfl, ⟨rfl, fun i v x h => by simp at h⟩, by simpa [resList] using h⟩
  | r :: rs, acc, K, h => by
    simp only [resList] at h
    obtain ⟨y, v, hy, hv, hk⟩ := oneRes_run hI hr h
    obtain ⟨ys, vs, hys, hlen, hA, hk'⟩ := resList_run hI hr rs _ K hk
    refine ⟨y :: ys, v :: vs, by simp [List.mapM_cons, hy, hys], by simp [hlen], ⟨by simp [hA.1], fun i u x hu hx => ?_⟩, by simpa using hk'⟩
    cases i with
    | zero => simp at hu hx; subst hu hx; exact hv
    | succ i => simp at hu hx; exact hA.2 i u x hu hx

theorem results_eq (fn : Func) (tmps : Array Value) : results fn tmps = (do let vs ← fn.results.mapM (resRun tmps); pure (if h : vs.size = 1 then vs[0] else .tuple vs)) := by
  unfold results
  congr 1

theorem relVs_of : ∀ {vs : List AV} {ys : List Value}, relA g w vs ys → (∀ v ∈ vs, v.known = true) → relVs g w vs ys
  | [], ys, h, _ => by have := h.1; simp at this; have : ys = [] := List.eq_nil_of_length_eq_zero (by omega); subst this; simp [relVs]
  | v :: vs, [], h, _ => by have := h.1; simp at this
  | v :: vs, y :: ys, h, hk => by
    simp only [relVs]
    obtain ⟨h1, h2⟩ := relV_known (h.2 0 v y rfl rfl) (hk v (by simp))
    exact ⟨y, ys, rfl, h1, h2, relVs_of ⟨by have := h.1; simpa using this, fun i u x hu hx => h.2 (i + 1) u x (by simpa using hu) (by simpa using hx)⟩ fun u hu => hk u (by simp [hu])⟩

theorem resW_run (hI : Inv g σ w) {fn : Func} {τ : Env} {tmps : Array Value} (hr : relE g w τ tmps) {K : AV → Prop} (h : resW P fn.results.toList τ σ K) : ∃ y v, (results fn tmps).run P w = .ok y w ∧ relV g w v y ∧ K v := by
  rw [results_eq]
  rw [Array.mapM_eq_mapM_toList]
  unfold resW at h
  split at h
  · rename_i r hrs
    obtain ⟨y, v, hy, hv, hk⟩ := oneRes_run hI hr h
    exact ⟨y, v, by simp [hrs, List.mapM_cons, hy], hv, hk⟩
  · rename_i hne
    obtain ⟨ys, vs, hys, hlen, hA, hk⟩ := resList_run hI hr _ _ _ h
    simp only [List.nil_append] at hk
    have hl1 : ys.length ≠ 1 := by
      intro h1
      rw [h1] at hlen
      generalize fn.results.toList = rs at hlen hne
      match rs, hlen, hne with
      | [r], _, hne => exact hne r rfl
    refine ⟨.tuple ys.toArray, .tuple vs, ?_, .inr (.inl ⟨vs, ys.toArray, rfl, rfl, by simpa using relVs_of hA hk.1⟩), hk.2⟩
    simp only [Sem.run_bind, Sem.run_map, hys, Result.andThen_ok, Sem.run_pure]
    congr 1
    rw [dif_neg (by simpa using hl1)]

theorem env0_rel {args : List AV} {xs : Array Value} (h : relA g w args xs.toList) (k : Nat) : relE g w (env0 args) (xs ++ Array.replicate k Go.undef) := by
  intro t
  unfold env0
  by_cases ht : t < args.length
  · have ht' : t < xs.size := by have := h.1; simp at this; omega
    have h1 : (xs ++ Array.replicate k Go.undef).getD t Go.undef = xs[t] := by
      simp [Array.getD, Array.getElem_append_left ht']; omega
    rw [h1, List.getD_eq_getElem?_getD, List.getElem?_eq_getElem ht]
    exact h.2 t _ _ (List.getElem?_eq_getElem ht) (by simp [ht'])
  · rw [List.getD_eq_getElem?_getD, List.getElem?_eq_none (by omega)]
    exact .inl rfl

/-- A FUNCTION's CONTRACT OUT OF ITS TEXT. -/
theorem tcalls_of {f : FuncId} {fn : Func} {c : Code} {args : List AV} {K : AV → AST → Prop} (hok : FnOk P f) (hf : P.funcs[f]? = some fn) (hb : fn.body = some c) (hd : dstOk fn.ntmps c = true) (hm : P.follows .mixedOrders = true) (hn : args.length ≤ fn.ntmps)
    (h : (∀ v ∈ args, lenOk v) → awp P c (bodyQ P fn K) (env0 args) σ) : TCalls P f args σ K := by
  refine ⟨hok, fun g w xs hI hA => ?_⟩
  have hlen : ∀ v ∈ args, lenOk v := by
    intro v hv
    obtain ⟨i, hi⟩ := List.mem_iff_getElem?.1 hv
    have hlt : i < xs.toList.length := by rw [← hA.1]; exact (List.getElem?_eq_some_iff.1 hi).1
    exact lenOk_of (hA.2 i v _ hi (List.getElem?_eq_getElem hlt))
  refine calls_of_wp hf hb ?_
  have hsz : xs.size = args.length := by have := hA.1; simp at this; omega
  have := awp_sound (r0 := none) (a := { tmps := xs ++ Array.replicate (fn.ntmps - xs.size) Go.undef, defers := [] }) hm c hd (h hlen) hI (env0_rel hA _) (by simp; omega)
  refine wp_mono (wpIn_wide.1 this) ?_
  rintro e a' w' ⟨g', τ', σ', hE, hI', hr', hn', hds, hq⟩
  have fin : resW P fn.results.toList τ' σ' (fun v => K v σ') → a'.defers = [] ∧ ∃ v, (results fn a'.tmps).run P w' = .ok v w' ∧ ∃ x g' v' σ', Ending.returned v = .returned x ∧ Ev g w g' w' ∧ Inv g' σ' w' ∧ relV g' w' v' x ∧ K v' σ' := by
    intro hq
    obtain ⟨y, v, hy, hv, hk⟩ := resW_run hI' hr' hq
    exact ⟨hds, y, hy, y, g', v, σ', rfl, hE, hI', hv, hk⟩
  cases e with
  | normal => exact fin hq
  | ret => exact fin hq
  | exit id => exact hq.elim
  | goto l => exact hq.elim
  | panic ch => exact hq.elim
  | outgrown => exact hq.elim

end Go.Aff
