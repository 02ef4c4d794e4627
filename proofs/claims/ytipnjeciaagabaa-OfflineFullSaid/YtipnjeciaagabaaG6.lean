import Derived.Test.YtipnjeciaagabaaG5
import Derived.Orders

set_option linter.unusedSimpArgs false
set_option linter.unusedVariables false

/- One operation: what it does to the abstract state, and that it does so. -/
namespace Go.Aff
set_option linter.unusedVariables false
set_option linter.unusedSimpArgs false

variable {g g' : G} {w w' : World} {σ σ' : AST} {P : Program}

def callW (P : Program) (ρ : Operand → AV) (c : Call) (σ : AST) (K : AV → AST → Prop) : Prop := match c.callee with
  | .builtin .append => match c.args.toList with
    | [s, x] => appendW P c.argTypes (ρ s) (ρ x) σ K
    | _ => False
  | .builtin .len => match c.args.toList with
    | [x] => lenW P c.argTypes (ρ x) fun v => K v σ
    | _ => False
  | .builtin .copy => match c.args.toList with
    | [x, y] => copyW P c.argTypes (ρ x) (ρ y) σ K
    | _ => False
  | .builtin .max => mmW true (c.args.toList.map ρ) fun v => K v σ
  | .builtin .min => mmW false (c.args.toList.map ρ) fun v => K v σ
  | .value f => match ρ f with
    | .fn (.func k) first cap => TCalls P k (first ++ c.args.toList.map ρ ++ cap) σ K
    | .fn (.yield l) [] [] => YCalls P l (c.args.toList.map ρ) σ K
    | _ => False
  | _ => False

def opW (P : Program) (ρ : Operand → AV) (o : Oper) (σ : AST) (K : AV → AST → Prop) : Prop := match o.op with
  | .move x => K (ρ x) σ
  | .assign x => K (ρ x) σ
  | .pick c a b => boolW (ρ c) (K (ρ a) σ) (K (ρ b) σ)
  | .alloc e => ZeroOf P e (zeroA P 12 e) ∧ K (.ptr (some (σ.objs.length, []))) (σ.push (.cells (zeroA P 12 e)))
  | .box e x => (ρ x).known = true ∧ K (.ptr (some (σ.objs.length, []))) (σ.push (.cells (ρ x)))
  | .build t ps => ZeroOf P t (zeroA P 12 t) ∧ (zeroA P 12 t).isAgg = true ∧ Built P t ∧ fillW P t (ps.toList.map fun p => (p.1, ρ p.2)) (zeroA P 12 t) fun v => K v σ
  | .buildSlice t n ps => buildSliceW P t n (ps.toList.map fun p => (p.1, ρ p.2)) fun v => K v σ
  | .load t a => loadW P σ t (ρ a) fun v => K v σ
  | .store t a x => storeW P σ t (ρ a) (ρ x) fun σ' => K .undef σ'
  | .nilCheck x => match ρ x with
    | .ptr (some q) => K (.ptr (some q)) σ
    | .eptr v => K (.eptr v) σ
    | .fn (.func f) a b => K (.fn (.func f) a b) σ
    | _ => False
  | .binOp op t x y _ => binW P op t (ρ x) (ρ y) fun v => K v σ
  | .unOp op _ x => unW op (ρ x) fun v => K v σ
  | .convert s d x => convW P s d (ρ x) σ K
  | .makeInterface t x => (∃ d, P.underlying t = some d ∧ ∀ ms, d ≠ .interface ms) ∧ (ρ x).known = true ∧ K (.iface t (ρ x)) σ
  | .makeFunc f first cap => (∀ x ∈ first.toList ++ cap.toList, (ρ x).known = true) ∧ K (.fn f (first.toList.map ρ) (cap.toList.map ρ)) σ
  | .slice t x lo hi mx => sliceW P t (ρ x) (lo.map ρ) (hi.map ρ) (mx.map ρ) fun v => K v σ
  | .fieldAddr t x i => (∃ fs, P.underlying t = some (.struct fs)) ∧ fieldAddrW P σ t (ρ x) i fun v => K v σ
  | .field t x i => (∃ fs, P.underlying t = some (.struct fs)) ∧ fieldW P t (ρ x) i fun v => K v σ
  | .indexAddr t x i => indexAddrW P σ t (ρ x) (ρ i) fun v => K v σ
  | .index t x i => indexW P t (ρ x) (ρ i) fun v => K v σ
  | .extract x i => match ρ x with
    | .tuple vs => match vs[i]? with
      | some v => K v σ
      | none => False
    | _ => False
  | .call c => callW P ρ c σ K
  | _ => False

/-- The fences that let everything in: of a function's own frame, of a round's. -/
abbrev FR (r : Option Nat) : Fence := { fn := fun _ => True, depth := none, alive := false, round := r }
theorem calls_in {r : Option Nat} {f : FuncId} {xs : Array Value} {R : Ending → World → Prop} {n : Nat} (h : Calls P f xs w R) : CallsIn (FR r) n P f xs w R := by
  have h1 : CallsIn Fence.wide n P f xs w R := callsIn_wide.2 h
  exact h1
theorem round_in {r : Option Nat} {l : Nat} {f : FuncId} {tmps : Array Value} {assign body : Code} {R : Ending → World → Prop} {n : Nat} (h : RoundIn Fence.wide n P l f tmps assign body w R) : RoundIn (FR r) n P l f tmps assign body w R := h

theorem upon_does {r : Option Nat} {o : Oper} {a : Act} {next : Act → World → Prop} {Q : Exit → Act → World → Prop} {s : Sem Value} {K : AV → AST → Prop} (h : Does P g w s K)
    (hn : ∀ g' w' v x σ', Ev g w g' w' → Inv g' σ' w' → relV g' w' v x → K v σ' → next (a.put o.dst x) w') :
    o.uponIn (FR r) 0 P a next Q (((do pure (.value (← s))) : Sem Next).run P w) := by
  obtain ⟨x, w', g', v, σ', hrun, hE, hI, hr, hK⟩ := h
  simp only [Sem.run_bind, hrun, Result.andThen_ok, Sem.run_pure]
  exact hn g' w' v x σ' hE hI hr hK

theorem mem_rel {ρ : Operand → AV} {r : Operand → Value} (hρ : ∀ x, relV g w (ρ x) (r x)) : ∀ {l : List Operand}, (∀ x ∈ l, (ρ x).known = true) → relVs g w (l.map ρ) (l.map r)
  | [], _ => by simp [relVs]
  | x :: l, h => by
    simp only [List.map_cons, relVs]
    obtain ⟨h1, h2⟩ := relV_known (hρ x) (h x (by simp))
    exact ⟨_, _, rfl, h1, h2, mem_rel hρ fun y hy => h y (by simp [hy])⟩

theorem relA_args {ρ : Operand → AV} {r : Operand → Value} (hρ : ∀ x, relV g w (ρ x) (r x)) (l : List Operand) : relA g w (l.map ρ) (l.map r) := by
  refine ⟨by simp, fun i v x hv hx => ?_⟩
  simp only [List.getElem?_map, Option.map_eq_some_iff] at hv hx
  obtain ⟨p, hp, rfl⟩ := hv
  obtain ⟨q, hq, rfl⟩ := hx
  rw [hp] at hq; cases hq
  exact hρ p

theorem relA_of_relVs : ∀ {vs : List AV} {l : List Value}, relVs g w vs l → relA g w vs l
  | [], l, h => by simp only [relVs] at h; subst h; exact ⟨rfl, fun i v x h => by simp at h⟩
  | v :: vs, l, h => by
    simp only [relVs] at h
    obtain ⟨x, r, rfl, h1, h2, h3⟩ := h
    obtain ⟨h4, h5⟩ := relA_of_relVs h3
    refine ⟨by simp [h4], fun i u y hu hy => ?_⟩
    cases i with
    | zero => simp at hu hy; subst hu hy; exact relV_of h1 h2
    | succ i => simp at hu hy; exact h5 i u y hu hy

theorem relA_append {a b : List AV} {x y : List Value} (h1 : relA g w a x) (h2 : relA g w b y) : relA g w (a ++ b) (x ++ y) := by
  refine ⟨by simp [h1.1, h2.1], fun i v z hv hz => ?_⟩
  rw [List.getElem?_append] at hv hz
  rw [← h1.1] at hz
  split at hv
  · rename_i hlt; rw [if_pos hlt] at hz; exact h1.2 i v z hv hz
  · rename_i hlt; rw [if_neg hlt] at hz; exact h2.2 _ v z hv hz

theorem callFunc_run {k : FuncId} (h : FnOk P k) (args : Array Value) (w : World) : (callFunc k args).run P w = .ok (.enter k args) w := by
  obtain ⟨fn, h1, h2, h3⟩ := h
  simp only [callFunc, Sem.run_bind, run_program, Result.andThen_ok, h1, h2, h3, Bool.false_eq_true, if_false, Sem.run_pure]

theorem two_args {ρ : Operand → AV} {l : Array Operand} {a b : AV} (h : l.toList.map ρ = [a, b]) : ∃ x y, l = #[x, y] ∧ ρ x = a ∧ ρ y = b := by
  have hl : l.toList.length = 2 := by have := congrArg List.length h; simpa using this
  obtain ⟨x, y, hxy⟩ : ∃ x y, l.toList = [x, y] := by
    generalize l.toList = q at hl
    rcases q with _ | ⟨x, _ | ⟨y, _ | ⟨z, q⟩⟩⟩ <;> simp at hl
    exact ⟨x, y, rfl⟩
  rw [hxy] at h
  simp only [List.map_cons, List.map_nil, List.cons.injEq, and_true] at h
  exact ⟨x, y, by apply Array.ext'; rw [hxy], h.1, h.2⟩

theorem op_sound {r : Option Nat} {o : Oper} {a : Act} {next : Act → World → Prop} {Q : Exit → Act → World → Prop} {ρ : Operand → AV} {K : AV → AST → Prop} (hI : Inv g σ w) (hρ : ∀ x, relV g w (ρ x) (a.eval x))
    (h : opW P ρ o σ K) (hn : ∀ g' w' v x σ', Ev g w g' w' → Inv g' σ' w' → relV g' w' v x → K v σ' → next (a.put o.dst x) w') :
    o.uponIn (FR r) 0 P a next Q ((execOp a.eval o).run P w) := by
  unfold opW at h
  unfold execOp
  split at h <;> first | exact h.elim | (rename_i heq; rw [heq]; simp only)
  · rename_i x
    exact hn g w _ _ σ (Ev.refl _ _) hI (hρ x) h
  · rename_i x
    exact hn g w _ _ σ (Ev.refl _ _) hI (hρ x) h
  · rename_i c x y
    unfold boolW at h
    split at h
    · rename_i b hb
      have hc := hρ c
      rw [hb] at hc
      have hv := relV_bool hc
      simp only [Sem.run_bind, hv, asBool, Sem.run_pure, Result.andThen_ok]
      cases b
      · exact hn g w _ _ σ (Ev.refl _ _) hI (hρ y) (h.2 rfl)
      · exact hn g w _ _ σ (Ev.refl _ _) hI (hρ x) (h.1 rfl)
    · exact h.elim
  · rename_i e
    exact upon_does (alloc_does hI h.1 h.2) hn
  · rename_i e x
    exact upon_does (box_does hI (hρ x) h.1 h.2) hn
  · rename_i t ps
    obtain ⟨h1, h2, h3, h4⟩ := h
    have hd := build_does (P := P) (K := K) (xs := ps.toList.map fun p => (p.1, a.eval p.2)) hI h1 h3 (by simp) (fun j p x hp hx => by
      simp only [List.getElem?_map, Option.map_eq_some_iff] at hp hx
      obtain ⟨q, hq, rfl⟩ := hp
      obtain ⟨q', hq', rfl⟩ := hx
      rw [hq] at hq'; cases hq'
      exact hρ _) h4 h2
    have e : (ps.map fun p => (p.1, a.eval p.2)) = (ps.toList.map fun p => (p.1, a.eval p.2)).toArray := by apply Array.ext'; simp
    have := upon_does (r := r) (o := o) (Q := Q) hd hn
    rw [← e] at this
    exact this
  · rename_i t n ps
    have hd := buildSlice_does (P := P) (K := K) (xs := ps.toList.map fun p => (p.1, a.eval p.2)) hI (by simp) (fun j p x hp hx => by
      simp only [List.getElem?_map, Option.map_eq_some_iff] at hp hx
      obtain ⟨q, hq, rfl⟩ := hp
      obtain ⟨q', hq', rfl⟩ := hx
      rw [hq] at hq'; cases hq'
      exact hρ _) h
    have e : (ps.map fun p => (p.1, a.eval p.2)) = (ps.toList.map fun p => (p.1, a.eval p.2)).toArray := by apply Array.ext'; simp
    have := upon_does (r := r) (o := o) (Q := Q) hd hn
    rw [← e] at this
    exact this
  · rename_i t x
    exact upon_does (load_does hI (hρ x) h) hn
  · rename_i t x y
    obtain ⟨w', g', σ', hrun, hE, hI', hK⟩ := store_does hI (hρ x) (hρ y) h
    simp only [Sem.run_bind, hrun, Result.andThen_ok, Sem.run_pure]
    exact hn g' w' .undef _ σ' hE hI' (.inl rfl) hK
  · rename_i x
    split at h
    · rename_i q hq
      have hx := hρ x
      rw [hq] at hx
      obtain ⟨i, p⟩ := q
      obtain ⟨b, sh, off, h1, h2, h3⟩ := relV_ptr hx
      rw [h3]
      rw [h3] at hx
      exact hn g w _ _ σ (Ev.refl _ _) hI hx h
    · rename_i v hq
      have hx := hρ x
      rw [hq] at hx
      obtain ⟨b, off, cv, h1, h2⟩ := relV_eptr hx
      rw [h1]
      rw [h1] at hx
      exact hn g w _ _ σ (Ev.refl _ _) hI hx h
    · rename_i f a' b' hq
      have hx := hρ x
      rw [hq] at hx
      have h0 := (relV_scalar hx rfl rfl).1
      simp only [relC, List.cons.injEq, and_true] at h0
      obtain ⟨p, q, h1, h2, h3⟩ := h0
      rw [h1]
      rw [h1] at hx
      exact hn g w _ _ σ (Ev.refl _ _) hI hx h
    · exact h.elim
  · rename_i op t x y yt
    exact upon_does (bin_does hI (hρ x) (hρ y) h) hn
  · rename_i op t x
    exact upon_does (un_does hI (hρ x) h) hn
  · rename_i s d x
    exact upon_does (conv_does hI (hρ x) h) hn
  · rename_i t x
    obtain ⟨⟨d, hd, hni⟩, hk, hK⟩ := h
    obtain ⟨h1, h2⟩ := relV_known (hρ x) hk
    have hrun : (Instr.makeInterface t (a.eval x)).run P w = .ok (.iface t (a.eval x)) w := by
      simp only [Instr.makeInterface, Sem.run_bind, run_underlying hd, Result.andThen_ok]
      cases d <;> first | (exact absurd rfl (hni _)) | rfl
    exact upon_does (K := K) (Does.pure hI hrun (relV_of (by simp only [relC, Value.cells]; exact ⟨_, rfl, h1, h2⟩) rfl) hK) hn
  · rename_i f first cap
    obtain ⟨hk, hK⟩ := h
    have hrun : (Instr.makeFunc f (first.map a.eval) (cap.map a.eval)).run P w = .ok (.func f (first.map a.eval) (cap.map a.eval)) w := rfl
    have r1 := mem_rel hρ (l := first.toList) fun x hx => hk x (by simp at hx ⊢; exact .inl hx)
    have r2 := mem_rel hρ (l := cap.toList) fun x hx => hk x (by simp at hx ⊢; exact .inr hx)
    exact upon_does (K := K) (Does.pure hI hrun (relV_of (by simp only [relC, Value.cells]; exact ⟨_, _, rfl, by simpa using r1, by simpa using r2⟩) rfl) hK) hn
  · rename_i t x lo hi mx
    have opt : ∀ (o : Option Operand), relO g w (o.map ρ) (o.map a.eval) := by
      intro o
      cases o with
      | none => exact .inl ⟨rfl, rfl⟩
      | some x => exact .inr ⟨_, _, rfl, rfl, hρ x⟩
    exact upon_does (slice_does hI (hρ x) (opt lo) (opt hi) (opt mx) h) hn
  · rename_i t x i
    exact upon_does (fieldAddr_does hI (hρ x) h.1 h.2) hn
  · rename_i t x i
    exact upon_does (field_does hI (hρ x) h.1 h.2) hn
  · rename_i t x i
    exact upon_does (indexAddr_does hI (hρ x) (hρ i) h) hn
  · rename_i t x i
    exact upon_does (index_does hI (hρ x) (hρ i) h) hn
  · rename_i x i
    split at h
    · rename_i vs hq
      split at h
      · rename_i v hv
        have hx := hρ x
        rw [hq] at hx
        exact upon_does (extract_does hI hx hv h) hn
      · exact h.elim
    · exact h.elim
  · rename_i c
    unfold callW at h
    split at h
    · rename_i hcal
      split at h
      · rename_i s x hargs
        have hm : c.args.map a.eval = #[a.eval s, a.eval x] := by
          have : (c.args.map a.eval).toList = [a.eval s, a.eval x] := by simp [hargs]
          apply Array.ext'; simpa using this
        have hd := append_does (ty := o.type) hI (hρ s) (hρ x) h
        have := upon_does (r := r) (o := o) (Q := Q) hd hn
        simpa [resolve, hcal, invoke, builtin, hm] using this
      · exact h.elim
    · rename_i hcal
      split at h
      · rename_i x hargs
        have hm : c.args.map a.eval = #[a.eval x] := by
          have : (c.args.map a.eval).toList = [a.eval x] := by simp [hargs]
          apply Array.ext'; simpa using this
        obtain ⟨t, ht, h⟩ := h
        have hd : Does P g w (Builtin.len_ c.argTypes o.type #[a.eval x]) K := by
          have hx := hρ x
          split at h
          · rename_i s hs
            rw [hs] at hx
            obtain ⟨h1, h2⟩ := relV_str hx
            rw [h1]
            exact Does.pure hI (v := .int .i64 s.length) (x := .int .i64 s.length) (by simp [Builtin.len_, ht, run_underlying h.1, goInt, bytes_size]) (relV_mkInt _ _) (h.2 h2)
          · rename_i tk xs hs
            rw [hs] at hx
            obtain ⟨ad, aa, cc, es, css, h1, _, h2, h3, h4, _⟩ := relV_slice hx
            obtain ⟨⟨e, he⟩, hK⟩ := h
            rw [h1]
            exact Does.pure hI (v := .int .i64 xs.length) (x := .int .i64 xs.length) (by simp [Builtin.len_, ht, run_underlying he, goInt]) (relV_mkInt _ _) (hK (by omega))
          · rename_i i p n hs
            rw [hs] at hx
            have hsc := (relV_scalar hx rfl rfl).1
            simp only [relC, List.cons.injEq, and_true] at hsc
            obtain ⟨b, sh, oo, cc, _, _, h1, h3, h4⟩ := hsc
            obtain ⟨⟨e, he⟩, hK⟩ := h
            rw [h1]
            exact Does.pure hI (v := .int .i64 n) (x := .int .i64 n) (by simp [Builtin.len_, ht, run_underlying he, goInt]) (relV_mkInt _ _) (hK (by omega))
          · exact h.elim
        have := upon_does (r := r) (o := o) (Q := Q) hd hn
        simpa [resolve, hcal, invoke, builtin, hm] using this
      · exact h.elim
    · rename_i hcal
      split at h
      · rename_i x y hargs
        have hm : c.args.map a.eval = #[a.eval x, a.eval y] := by
          have : (c.args.map a.eval).toList = [a.eval x, a.eval y] := by simp [hargs]
          apply Array.ext'; simpa using this
        have hd := copy_does (ty := o.type) hI (hρ x) (hρ y) h
        have := upon_does (r := r) (o := o) (Q := Q) hd hn
        simpa [resolve, hcal, invoke, builtin, hm] using this
      · exact h.elim
    · rename_i hcal
      unfold mmW at h
      split at h
      · rename_i k p k' q hargs
        obtain ⟨rfl, hK⟩ := h
        have hm : ∃ x y, c.args = #[x, y] ∧ ρ x = .int k p ∧ ρ y = .int k q := by
          exact two_args hargs
        obtain ⟨x, y, hc, hx, hy⟩ := hm
        have h1 := relV_int (hx ▸ hρ x)
        have h2 := relV_int (hy ▸ hρ y)
        have hd : Does P g w (Builtin.max_ c.argTypes o.type #[.int k p, .int k q]) K := by
          refine Does.pure hI (v := .int k (max p q)) (x := .int k (max p q)) ?_ (relV_mkInt _ _) (by simpa using hK)
          rw [run_max_int2]
          congr 2
          by_cases hlt : q > p
          · rw [if_pos hlt]; omega
          · rw [if_neg hlt]; omega
        have := upon_does (r := r) (o := o) (Q := Q) hd hn
        simpa [resolve, hcal, invoke, builtin, hc, h1, h2] using this
      · exact h.elim
    · rename_i hcal
      unfold mmW at h
      split at h
      · rename_i k p k' q hargs
        obtain ⟨rfl, hK⟩ := h
        have hm : ∃ x y, c.args = #[x, y] ∧ ρ x = .int k p ∧ ρ y = .int k q := by
          exact two_args hargs
        obtain ⟨x, y, hc, hx, hy⟩ := hm
        have h1 := relV_int (hx ▸ hρ x)
        have h2 := relV_int (hy ▸ hρ y)
        have hd : Does P g w (Builtin.min_ c.argTypes o.type #[.int k p, .int k q]) K := by
          refine Does.pure hI (v := .int k (min p q)) (x := .int k (min p q)) ?_ (relV_mkInt _ _) (by simpa using hK)
          rw [run_min_int2]
          congr 2
          by_cases hlt : q < p
          · rw [if_pos hlt]; omega
          · rw [if_neg hlt]; omega
        have := upon_does (r := r) (o := o) (Q := Q) hd hn
        simpa [resolve, hcal, invoke, builtin, hc, h1, h2] using this
      · exact h.elim
    · rename_i f hcal
      split at h
      · rename_i k first cap hf
        have hx := hρ f
        rw [hf] at hx
        have h0 := (relV_scalar hx rfl rfl).1
        simp only [relC, List.cons.injEq, and_true] at h0
        obtain ⟨p, q, h1, h2, h3⟩ := h0
        have hrun : ((do let d ← resolve a.eval c o.type; invoke d.target d.args) : Sem Next).run P w = .ok (.enter k (p ++ c.args.map a.eval ++ q)) w := by
          simp [resolve, hcal, h1, Deferred.ofValue, invoke, callFunc_run h.1]
        rw [hrun, Oper.uponIn_enter]
        refine ⟨fun h => by simp at h, calls_in ?_⟩
        have hA : relA g w (first ++ c.args.toList.map ρ ++ cap) (p ++ c.args.map a.eval ++ q).toList := by
          simp only [Array.toList_append, Array.toList_map]
          exact relA_append (relA_append (relA_of_relVs h2) (relA_args hρ _)) (relA_of_relVs h3)
        refine (h.2 g w _ hI hA).mono ?_
        rintro e w' ⟨x, g', v, σ', rfl, hE, hI', hr, hK⟩
        exact hn g' w' v x σ' hE hI' hr hK
      · rename_i l hf
        have hx := hρ f
        rw [hf] at hx
        have h0 := (relV_scalar hx rfl rfl).1
        simp only [relC, List.cons.injEq, and_true] at h0
        obtain ⟨p, q, h1, h2, h3⟩ := h0
        simp only [relVs] at h2 h3
        obtain rfl : p = #[] := by cases p; simp_all
        obtain rfl : q = #[] := by cases q; simp_all
        obtain ⟨fn, tmps, assign, body, hy, hR⟩ := h g w (c.args.map a.eval) hI (by simp only [Array.toList_map]; exact relA_args hρ _)
        have hrun : ((do let d ← resolve a.eval c o.type; invoke d.target d.args) : Sem Next).run P w = .ok (.round l fn tmps assign body) w := by
          simp [resolve, hcal, h1, Deferred.ofValue, invoke, hy]
        rw [hrun, Oper.uponIn_round]
        refine ⟨fun h => by simp at h, round_in (hR.mono ?_)⟩
        rintro e w' ⟨x, g', v, σ', rfl, hE, hI', hr, hK⟩
        exact hn g' w' v x σ' hE hI' hr hK
      · exact h.elim
    · exact h.elim

theorem semAt_sound {r : Option Nat} {o : Oper} {ρ : Operand → AV} {K : AV → AST → Prop} (h : opW P ρ o σ K) (f : Operand → Value) : o.semAt r f = execOp f o := by
  refine Oper.semAt_eq r f o fun c hc => ?_
  unfold opW at h
  rw [hc] at h
  exact h

end Go.Aff

/- Regions: one order, or any. (1) Operations hang on their operands alone; pure ones have one value. -/
namespace Go.Aff
set_option linter.unusedVariables false
set_option linter.unusedSimpArgs false

variable {g g' : G} {w w' : World} {σ σ' : AST} {P : Program}

theorem opW_congr {ρ ρ' : Operand → AV} {o : Oper} {K : AV → AST → Prop} (h : ∀ x ∈ o.op.operands, ρ x = ρ' x) : opW P ρ o σ K = opW P ρ' o σ K := by
  obtain ⟨dst, op, type, pos, after, guard⟩ := o
  have pairs : ∀ ps : List (Nat × Operand), (∀ x ∈ ps.map (·.2), ρ x = ρ' x) → (ps.map fun p => (p.1, ρ p.2)) = (ps.map fun p => (p.1, ρ' p.2)) := fun ps hp =>
    List.map_congr_left fun p hm => by rw [hp p.2 (List.mem_map.2 ⟨p, hm, rfl⟩)]
  have ms : ∀ l : List Operand, (∀ x ∈ l, ρ x = ρ' x) → l.map ρ = l.map ρ' := fun l hl => List.map_congr_left hl
  cases op <;> simp only [Op.operands] at h <;> simp only [opW]
  case build t ps => rw [pairs ps.toList fun x hx => h x (by simpa using hx)]
  case buildSlice t n ps => rw [pairs ps.toList fun x hx => h x (by simpa using hx)]
  case makeFunc f first cap =>
    rw [ms first.toList fun x hx => h x (by simp at hx ⊢; exact .inl hx), ms cap.toList fun x hx => h x (by simp at hx ⊢; exact .inr hx)]
    have : (∀ x ∈ first.toList ++ cap.toList, (ρ x).known = true) = (∀ x ∈ first.toList ++ cap.toList, (ρ' x).known = true) := by
      apply propext
      constructor
      · intro hh x hx; rw [← h x (by simpa using hx)]; exact hh x hx
      · intro hh x hx; rw [h x (by simpa using hx)]; exact hh x hx
    rw [this]
  case slice t x lo hi mx => cases lo <;> cases hi <;> cases mx <;> simp_all
  case call c =>
    unfold callW
    have ha : c.args.toList.map ρ = c.args.toList.map ρ' := ms _ fun x hx => h x (by simp [Call.operands] at hx ⊢; exact .inr hx)
    have hargs : ∀ x ∈ c.args.toList, ρ x = ρ' x := fun x hx => h x (by simp [Call.operands] at hx ⊢; exact .inr hx)
    cases hc : c.callee with
    | value f =>
      have hf : ρ f = ρ' f := h f (by simp [Call.operands, hc])
      simp only [hf, ha]
    | invoke r m => rfl
    | builtin b =>
      cases b <;> simp only [ha]
      · cases hq : c.args.toList with
        | nil => rfl
        | cons s l =>
          cases l with
          | nil => rfl
          | cons x l =>
            cases l with
            | nil => simp only; rw [hargs s (by simp [hq]), hargs x (by simp [hq])]
            | cons y l => rfl
      · cases hq : c.args.toList with
        | nil => rfl
        | cons s l =>
          cases l with
          | nil => rfl
          | cons x l =>
            cases l with
            | nil => simp only; rw [hargs s (by simp [hq]), hargs x (by simp [hq])]
            | cons y l => rfl
      · cases hq : c.args.toList with
        | nil => rfl
        | cons s l =>
          cases l with
          | nil => simp only; rw [hargs s (by simp [hq])]
          | cons x l => rfl
  all_goals (first | rfl | (simp_all; done))

/-- An operation that may turn the state. -/
def effO (P : Program) (o : Oper) : Bool := match o.op with
  | .move _ | .assign _ | .pick _ _ _ | .build _ _ | .buildSlice _ _ _ | .load _ _ | .nilCheck _ | .binOp _ _ _ _ _ | .unOp _ _ _ | .makeInterface _ _ | .makeFunc _ _ _
  | .slice _ _ _ _ _ | .fieldAddr _ _ _ | .field _ _ _ | .indexAddr _ _ _ | .index _ _ _ | .extract _ _ => false
  | .convert _ d _ => match P.underlying d with
    | some (.slice _) => true
    | _ => false
  | .call c => match c.callee with
    | .builtin .len | .builtin .min | .builtin .max => false
    | _ => true
  | _ => true

def lenOk : AV → Prop
  | .str s => s.length ≤ maxL
  | .slice _ xs => xs.length ≤ maxL
  | .arr _ _ n => n ≤ maxL
  | _ => True

theorem lenOk_of {v : AV} {x : Value} (h : relV g w v x) : lenOk v := by
  cases v <;> simp only [lenOk]
  · exact (relV_str h).2
  · obtain ⟨_, _, _, _, _, _, _, _, h1, h2, _⟩ := relV_slice h; omega
  · have := (relV_scalar h rfl rfl).1
    simp only [relC] at this
    obtain ⟨_, _, _, _, _, _, _, h1, h2⟩ := this; omega

theorem fill_det {t : TypeId} : ∀ {parts : List (Nat × AV)} {v : AV} {K : AV → Prop}, fillW P t parts v K → ∃ v', K v' ∧ ∀ K' : AV → Prop, K' v' → fillW P t parts v K'
  | [], v, K, h => ⟨v, by unfold fillW at h; exact h, fun K' hk => by unfold fillW; exact hk⟩
  | (i, x) :: r, v, K, h => by
    cases v with
    | agg ps =>
      simp only [fillW] at h
      obtain ⟨u, h1, h2, h3, h4, h5⟩ := h
      obtain ⟨v', hv, hk⟩ := fill_det h5
      exact ⟨v', hv, fun K' hK => by simp only [fillW]; exact ⟨u, h1, h2, h3, h4, hk K' hK⟩⟩
    | dig d =>
      have hx : ∃ n, x = .int .u8 n := by
        cases x with
        | int k n => cases k <;> first | exact ⟨n, rfl⟩ | simp [fillW] at h
        | _ => simp [fillW] at h
      obtain ⟨n, rfl⟩ := hx
      simp only [fillW] at h
      obtain ⟨h1, h2, h3, h4, h5⟩ := h
      obtain ⟨v', hv, hk⟩ := fill_det h5
      exact ⟨v', hv, fun K' hK => by simp only [fillW]; exact ⟨h1, h2, h3, h4, hk K' hK⟩⟩
    | _ => simp [fillW] at h

theorem int_det {op : BinOp} {k : IntKind} {a b : Int} {K : AV → Prop} (h : intW op k a b K) : ∃ v, K v ∧ ∀ K' : AV → Prop, K' v → intW op k a b K' := by
  cases op <;> simp only [intW] at h ⊢ <;> first | exact h.elim | exact ⟨_, h, fun _ h => h⟩ | exact ⟨_, h.2, fun _ h' => ⟨h.1, h'⟩⟩

theorem str_det {op : BinOp} {a b : List UInt8} {K : AV → Prop} (h : strW op a b K) : ∃ v, K v ∧ ∀ K' : AV → Prop, K' v → strW op a b K' := by
  cases op <;> simp only [strW] at h ⊢ <;> first | exact h.elim | exact ⟨_, h, fun _ h => h⟩ | exact ⟨_, h.2, fun _ h' => ⟨h.1, h'⟩⟩

theorem eq_det {op : BinOp} {r : Option Bool} {K : AV → Prop} (h : eqW op r K) : ∃ v, K v ∧ ∀ K' : AV → Prop, K' v → eqW op r K' := by
  cases op <;> simp only [eqW] at h ⊢
  · obtain ⟨b, h1, h2⟩ := h; exact ⟨_, h2, fun _ h' => ⟨b, h1, h'⟩⟩
  · obtain ⟨b, h1, h2⟩ := h; exact ⟨_, h2, fun _ h' => ⟨b, h1, h'⟩⟩

theorem bin_det {op : BinOp} {t : TypeId} {x y : AV} {K : AV → Prop} (h : binW P op t x y K) : ∃ v, K v ∧ ∀ K' : AV → Prop, K' v → binW P op t x y K' := by
  unfold binW at h
  split at h
  · obtain ⟨h1, h2⟩ := h
    obtain ⟨v, hv, hk⟩ := int_det h2
    exact ⟨v, hv, fun K' h' => ⟨h1, hk K' h'⟩⟩
  · obtain ⟨v, hv, hk⟩ := str_det h
    exact ⟨v, hv, fun K' h' => hk K' h'⟩
  · obtain ⟨v, hv, hk⟩ := eq_det h
    exact ⟨v, hv, fun K' h' => hk K' h'⟩
  · obtain ⟨v, hv, hk⟩ := eq_det h
    exact ⟨v, hv, fun K' h' => hk K' h'⟩
  · obtain ⟨h1, h2⟩ := h
    obtain ⟨v, hv, hk⟩ := eq_det h2
    exact ⟨v, hv, fun K' h' => ⟨h1, hk K' h'⟩⟩
  · obtain ⟨h1, h2⟩ := h
    obtain ⟨v, hv, hk⟩ := eq_det h2
    exact ⟨v, hv, fun K' h' => ⟨h1, hk K' h'⟩⟩
  · exact h.elim

theorem nth_det {α : Type} {l : List α} {n : Int} {Q : α → (AV → Prop) → Prop} (hQ : ∀ x K, Q x K → ∃ v, K v ∧ ∀ K' : AV → Prop, K' v → Q x K') {K : AV → Prop} (h : nthW l n fun x => Q x K) :
    ∃ v, K v ∧ ∀ K' : AV → Prop, K' v → nthW l n fun x => Q x K' := by
  obtain ⟨h0, h1, h2⟩ := h
  have hlt : n.toNat < l.length := by omega
  obtain ⟨v, hv, hk⟩ := hQ _ _ (h2 _ (List.getElem?_eq_getElem hlt))
  refine ⟨v, hv, fun K' h' => ⟨h0, h1, fun x hx => ?_⟩⟩
  rw [List.getElem?_eq_getElem hlt] at hx
  cases hx
  exact hk K' h'

theorem bnd_det {v : Option AV} {n : Nat} {Q : Nat → (AV → Prop) → Prop} (hQ : ∀ n K, Q n K → ∃ v, K v ∧ ∀ K' : AV → Prop, K' v → Q n K') {K : AV → Prop} (h : bndW v n fun n => Q n K) :
    ∃ v', K v' ∧ ∀ K' : AV → Prop, K' v' → bndW v n fun n => Q n K' := by
  unfold bndW at h ⊢
  split at h
  · exact hQ _ _ h
  · obtain ⟨v', hv, hk⟩ := hQ _ _ h.2
    exact ⟨v', hv, fun K' h' => ⟨h.1, hk K' h'⟩⟩
  · exact h.elim

def maxW (mx hi : Option AV) (tk : Tk) (xs : List AV) (l h : Nat) (K : AV → Prop) : Prop := match mx with
  | none => K (.slice (subTk tk (h == xs.length)) ((xs.take h).drop l))
  | some (.int _ m) => m = h ∧ hi.isSome = true ∧ K (.slice .full ((xs.take h).drop l))
  | _ => False

theorem max_det {mx hi : Option AV} {tk : Tk} {xs : List AV} {l h : Nat} {K : AV → Prop} (hh : maxW mx hi tk xs l h K) : ∃ v, K v ∧ ∀ K' : AV → Prop, K' v → maxW mx hi tk xs l h K' := by
  unfold maxW at hh ⊢
  split at hh
  · exact ⟨_, hh, fun _ h => h⟩
  · exact ⟨_, hh.2.2, fun K' h' => ⟨hh.1, hh.2.1, h'⟩⟩
  · exact hh.elim

theorem slice_det {t : TypeId} {x : AV} {lo hi mx : Option AV} {K : AV → Prop} (h : sliceW P t x lo hi mx K) : ∃ v, K v ∧ ∀ K' : AV → Prop, K' v → sliceW P t x lo hi mx K' := by
  cases x with
  | str s =>
    simp only [sliceW] at h ⊢
    obtain ⟨h1, h2, h3⟩ := h
    obtain ⟨v, hv, hk⟩ := bnd_det (Q := fun l K => bndW hi s.length fun h => l ≤ h ∧ h ≤ s.length ∧ K (.str ((s.take h).drop l)))
      (fun l K h => bnd_det (Q := fun h K => l ≤ h ∧ h ≤ s.length ∧ K (.str ((s.take h).drop l))) (fun h K hh => ⟨_, hh.2.2, fun K' h' => ⟨hh.1, hh.2.1, h'⟩⟩) h) h3
    exact ⟨v, hv, fun K' h' => ⟨h1, h2, hk K' h'⟩⟩
  | slice tk xs =>
    have conv : ∀ K : AV → Prop, sliceW P t (.slice tk xs) lo hi mx K = ∃ e, P.underlying t = some (.slice e) ∧ (∀ v ∈ xs, v.size = P.cellsOf e) ∧ (∃ d, P.underlying e = some d) ∧ bndW lo 0 fun l => bndW hi xs.length fun h => l ≤ h ∧ h ≤ xs.length ∧ maxW mx hi tk xs l h K := by
      intro K
      unfold sliceW maxW
      rfl
    rw [conv] at h
    obtain ⟨e, h1, h2, h3, h4⟩ := h
    obtain ⟨v, hv, hk⟩ := bnd_det (Q := fun l K => bndW hi xs.length fun h => l ≤ h ∧ h ≤ xs.length ∧ maxW mx hi tk xs l h K)
      (fun l K h => bnd_det (Q := fun h K => l ≤ h ∧ h ≤ xs.length ∧ maxW mx hi tk xs l h K) (fun h K hh => by
        obtain ⟨v, hv, hk⟩ := max_det hh.2.2
        exact ⟨v, hv, fun K' h' => ⟨hh.1, hh.2.1, hk K' h'⟩⟩) h) h4
    exact ⟨v, hv, fun K' h' => by rw [conv]; exact ⟨e, h1, h2, h3, hk K' h'⟩⟩
  | ptr q =>
    cases q with
    | none => simp [sliceW] at h
    | some q =>
      obtain ⟨i, p⟩ := q
      simp only [sliceW] at h ⊢
      obtain ⟨e, n, h1, h3, h4, h5, h6, h7⟩ := h
      obtain ⟨v, hv, hk⟩ := bnd_det (Q := fun h K => h ≤ n ∧ K (.arr i p h)) (fun h K hh => ⟨_, hh.2, fun K' h' => ⟨hh.1, h'⟩⟩) h7
      exact ⟨v, hv, fun K' h' => ⟨e, n, h1, h3, h4, h5, h6, hk K' h'⟩⟩
  | _ => simp [sliceW] at h

theorem fieldAddr_det {t : TypeId} {i : Nat} {x : AV} {K : AV → Prop} (h : fieldAddrW P σ t x i K) : ∃ v, K v ∧ ∀ K' : AV → Prop, K' v → fieldAddrW P σ t x i K' := by
  unfold fieldAddrW at h ⊢
  split at h
  · split at h
    · split at h
      · split at h
        · exact ⟨_, h.2.2, fun K' h' => ⟨h.1, h.2.1, h'⟩⟩
        · exact h.elim
      · exact h.elim
    · exact h.elim
  · split at h
    · exact ⟨_, h.2.2, fun K' h' => ⟨h.1, h.2.1, h'⟩⟩
    · exact h.elim
  · exact h.elim

theorem index_det {t : TypeId} {x i : AV} {K : AV → Prop} (h : indexW P t x i K) : ∃ v, K v ∧ ∀ K' : AV → Prop, K' v → indexW P t x i K' := by
  cases i with
  | int k n =>
    cases x with
    | str s =>
      simp only [indexW] at h ⊢
      obtain ⟨v, hv, hk⟩ := nth_det (Q := fun (b : UInt8) K => K (.int .u8 b.toNat)) (fun x K h => ⟨_, h, fun _ h => h⟩) h.2
      exact ⟨v, hv, fun K' h' => ⟨h.1, hk K' h'⟩⟩
    | dig d =>
      simp only [indexW] at h ⊢
      obtain ⟨v, hv, hk⟩ := nth_det (Q := fun (b : UInt8) K => K (.int .u8 b.toNat)) (fun x K h => ⟨_, h, fun _ h => h⟩) h.2
      exact ⟨v, hv, fun K' h' => ⟨h.1, hk K' h'⟩⟩
    | agg ps =>
      simp only [indexW] at h ⊢
      exact nth_det (Q := fun x K => partIs P t ps n.toNat x ∧ (∃ e, P.underlying t = some (.array ps.length e)) ∧ K x) (fun x K h => ⟨_, h.2.2, fun K' h' => ⟨h.1, h.2.1, h'⟩⟩) h
    | _ => simp [indexW] at h
  | _ => simp [indexW] at h

theorem indexAddr_det {t : TypeId} {x i : AV} {K : AV → Prop} (h : indexAddrW P σ t x i K) : ∃ v, K v ∧ ∀ K' : AV → Prop, K' v → indexAddrW P σ t x i K' := by
  cases i with
  | int k n =>
    cases x with
    | slice tk xs =>
      simp only [indexAddrW] at h ⊢
      obtain ⟨e, h1, h2⟩ := h
      obtain ⟨v, hv, hk⟩ := nth_det (Q := fun x K => fits P e x ∧ 0 < x.size ∧ K (.eptr x)) (fun x K h => ⟨_, h.2.2, fun K' h' => ⟨h.1, h.2.1, h'⟩⟩) h2
      exact ⟨v, hv, fun K' h' => ⟨e, h1, hk K' h'⟩⟩
    | ptr q =>
      cases q with
      | none => simp [indexAddrW] at h
      | some q =>
        obtain ⟨j, p⟩ := q
        simp only [indexAddrW] at h ⊢
        cases ho : σ.objs[j]? with
        | none => simp [ho] at h
        | some ob =>
          cases ob with
          | cells v =>
            simp only [ho] at h ⊢
            cases hv : v.at p with
            | none => simp [hv] at h
            | some u =>
              cases u with
              | agg ps =>
                simp only [hv] at h ⊢
                exact nth_det (Q := fun x K => partIs P t ps n.toNat x ∧ (∃ e, P.underlying t = some (.array ps.length e)) ∧ K (.ptr (some (j, p ++ [n.toNat])))) (fun x K h => ⟨_, h.2.2, fun K' h' => ⟨h.1, h.2.1, h'⟩⟩) h
              | dig d =>
                simp only [hv] at h ⊢
                exact nth_det (Q := fun (x : UInt8) K => (∃ e, P.underlying t = some (.array 32 e) ∧ fits P e (.int .u8 0)) ∧ K (.ptr (some (j, p ++ [n.toNat])))) (fun x K h => ⟨_, h.2, fun K' h' => ⟨h.1, h'⟩⟩) h
              | _ => simp [hv] at h
          | map es => simp [ho] at h
          | gone => simp [ho] at h
          | pin l o vs xs => simp [ho] at h
    | eptr v =>
      cases v with
      | agg ps =>
        simp only [indexAddrW] at h ⊢
        exact nth_det (Q := fun x K => partIs P t ps n.toNat x ∧ (∃ e, P.underlying t = some (.array ps.length e)) ∧ K (.eptr x)) (fun x K h => ⟨_, h.2.2, fun K' h' => ⟨h.1, h.2.1, h'⟩⟩) h
      | _ => simp [indexAddrW] at h
    | arr j p m =>
      simp only [indexAddrW] at h ⊢
      cases ho : σ.objs[j]? with
      | none => simp [ho] at h
      | some ob =>
        cases ob with
        | cells v =>
          simp only [ho] at h ⊢
          cases hv : v.at p with
          | none => simp [hv] at h
          | some u =>
            cases u with
            | agg ps =>
              simp only [hv] at h ⊢
              obtain ⟨e, h1, h2, h3, h4⟩ := h
              obtain ⟨v, hv, hk⟩ := nth_det (Q := fun x K => fits P e x ∧ K (.ptr (some (j, p ++ [n.toNat])))) (fun x K h => ⟨_, h.2, fun K' h' => ⟨h.1, h'⟩⟩) h4
              exact ⟨v, hv, fun K' h' => ⟨e, h1, h2, h3, hk K' h'⟩⟩
            | _ => simp [hv] at h
        | map es => simp [ho] at h
        | gone => simp [ho] at h
        | pin l o vs xs => simp [ho] at h
    | _ => simp [indexAddrW] at h
  | _ => simp [indexAddrW] at h

theorem load_det {t : TypeId} {a : AV} {K : AV → Prop} (h : loadW P σ t a K) : ∃ v, K v ∧ ∀ K' : AV → Prop, K' v → loadW P σ t a K' := by
  unfold loadW at h ⊢
  split at h
  · split at h
    · split at h
      · exact ⟨_, h.2, fun K' h' => ⟨h.1, h'⟩⟩
      · exact h.elim
    · exact h.elim
  · exact ⟨_, h.2, fun K' h' => ⟨h.1, h'⟩⟩
  · exact h.elim

theorem op_det {ρ : Operand → AV} {o : Oper} {K : AV → AST → Prop} (hl : ∀ x, lenOk (ρ x)) (he : effO P o = false) (h : opW P ρ o σ K) : ∃ v, K v σ ∧ ∀ K' : AV → AST → Prop, K' v σ → opW P ρ o σ K' := by
  obtain ⟨dst, op, type, pos, after, guard⟩ := o
  -- what says of the value alone
  have lift : ∀ {Q : (AV → Prop) → Prop}, (∀ {K : AV → Prop}, Q K → ∃ v, K v ∧ ∀ K' : AV → Prop, K' v → Q K') → Q (fun v => K v σ) → ∃ v, K v σ ∧ ∀ K' : AV → AST → Prop, K' v σ → Q (fun v => K' v σ) := by
    intro Q hq hQ
    obtain ⟨v, hv, hk⟩ := hq hQ
    exact ⟨v, hv, fun K' h' => hk _ h'⟩
  cases op <;> simp only [effO] at he <;> simp only [opW] at h ⊢
  case move x => exact ⟨_, h, fun _ h => h⟩
  case assign x => exact ⟨_, h, fun _ h => h⟩
  case pick c a b =>
    unfold boolW at h ⊢
    split at h
    · rename_i t ht
      cases t
      · exact ⟨_, h.2 rfl, fun K' h' => ⟨(fun h => by cases h), fun _ => h'⟩⟩
      · exact ⟨_, h.1 rfl, fun K' h' => ⟨fun _ => h', (fun h => by cases h)⟩⟩
    · exact h.elim
  case build t ps =>
    obtain ⟨h1, h2, h3, h4⟩ := h
    obtain ⟨v, hv, hk⟩ := lift (Q := fun K => fillW P t (ps.toList.map fun p => (p.1, ρ p.2)) (zeroA P 12 t) K) fill_det h4
    exact ⟨v, hv, fun K' h' => ⟨h1, h2, h3, hk K' h'⟩⟩
  case buildSlice t n ps =>
    obtain ⟨e, h1, h2, h3, h4, h5, h6, h7⟩ := h
    rcases h7 with h7 | ⟨hn, h7⟩
    · exact ⟨_, h7, fun K' h' => ⟨e, h1, h2, h3, h4, h5, h6, .inl h'⟩⟩
    · exact ⟨_, h7, fun K' h' => ⟨e, h1, h2, h3, h4, h5, h6, .inr ⟨hn, h'⟩⟩⟩
  case load t a => exact lift (Q := fun K => loadW P σ t (ρ a) K) load_det h
  case nilCheck x =>
    split at h
    · exact ⟨_, h, fun _ h => h⟩
    · exact ⟨_, h, fun _ h => h⟩
    · exact ⟨_, h, fun _ h => h⟩
    · exact h.elim
  case binOp op t x y yt => exact lift (Q := fun K => binW P op t (ρ x) (ρ y) K) bin_det h
  case unOp op t x =>
    unfold unW at h ⊢
    split at h
    · exact ⟨_, h, fun _ h => h⟩
    · exact ⟨_, h, fun _ h => h⟩
    · exact h.elim
  case convert s d x =>
    unfold convW at h ⊢
    split at h
    · obtain ⟨k, h1, h2, h3⟩ := h
      exact ⟨_, h3, fun K' h' => ⟨k, h1, h2, h'⟩⟩
    · rcases h with ⟨h1, h2, h3⟩ | ⟨e, h1, h2, h3, h4⟩
      · exact ⟨_, h3, fun K' h' => .inl ⟨h1, h2, h'⟩⟩
      · rw [h1] at he; simp at he
    · rcases h with ⟨e, l, h1, h2, h3, h4, h5⟩ | ⟨h1, h2, e, h3, h4, h5⟩
      · exact ⟨_, h5, fun K' h' => .inl ⟨e, l, h1, h2, h3, h4, h'⟩⟩
      · exact ⟨_, h5, fun K' h' => .inr ⟨h1, h2, e, h3, h4, h'⟩⟩
    · split at h
      · split at h
        · obtain ⟨h1, e, h2, h3, h4, h5⟩ := h
          exact ⟨_, h5, fun K' h' => ⟨h1, e, h2, h3, h4, h'⟩⟩
        · exact h.elim
      · exact h.elim
    · exact h.elim
  case makeInterface t x => exact ⟨_, h.2.2, fun K' h' => ⟨h.1, h.2.1, h'⟩⟩
  case makeFunc f first cap => exact ⟨_, h.2, fun K' h' => ⟨h.1, h'⟩⟩
  case slice t x lo hi mx => exact lift (Q := fun K => sliceW P t (ρ x) (lo.map ρ) (hi.map ρ) (mx.map ρ) K) slice_det h
  case fieldAddr t x i =>
    obtain ⟨h1, h⟩ := h
    obtain ⟨v, hv, hk⟩ := lift (Q := fun K => fieldAddrW P σ t (ρ x) i K) fieldAddr_det h
    exact ⟨v, hv, fun K' h' => ⟨h1, hk K' h'⟩⟩
  case field t x i =>
    obtain ⟨h1, h⟩ := h
    unfold fieldW at h ⊢
    split at h
    · split at h
      · exact ⟨_, h.2, fun K' h' => ⟨h1, h.1, h'⟩⟩
      · exact h.elim
    · exact h.elim
  case indexAddr t x i => exact lift (Q := fun K => indexAddrW P σ t (ρ x) (ρ i) K) indexAddr_det h
  case index t x i => exact lift (Q := fun K => indexW P t (ρ x) (ρ i) K) index_det h
  case extract x i =>
    split at h
    · split at h
      · exact ⟨_, h, fun _ h => h⟩
      · exact h.elim
    · exact h.elim
  case call c =>
    unfold callW at h ⊢
    split at h
    · rename_i hc; simp [hc] at he
    · split at h
      · rename_i x hx
        obtain ⟨t, ht, h⟩ := h
        have hlx := hl x
        split at h
        · rename_i s hs
          rw [hs] at hlx
          exact ⟨_, h.2 hlx, fun K' h' => ⟨t, ht, by simp only [hs]; exact ⟨h.1, fun _ => h'⟩⟩⟩
        · rename_i tk xs hs
          rw [hs] at hlx
          exact ⟨_, h.2 hlx, fun K' h' => ⟨t, ht, by simp only [hs]; exact ⟨h.1, fun _ => h'⟩⟩⟩
        · rename_i i p n hs
          rw [hs] at hlx
          exact ⟨_, h.2 hlx, fun K' h' => ⟨t, ht, by simp only [hs]; exact ⟨h.1, fun _ => h'⟩⟩⟩
        · exact h.elim
      · exact h.elim
    · rename_i hc; simp [hc] at he
    · refine lift (Q := fun K => mmW true (c.args.toList.map ρ) K) ?_ h
      intro K h
      unfold mmW at h ⊢
      split at h
      · exact ⟨_, h.2, fun K' h' => ⟨h.1, h'⟩⟩
      · exact h.elim
    · refine lift (Q := fun K => mmW false (c.args.toList.map ρ) K) ?_ h
      intro K h
      unfold mmW at h ⊢
      split at h
      · exact ⟨_, h.2, fun K' h' => ⟨h.1, h'⟩⟩
      · exact h.elim
    · rename_i hc; simp [hc] at he
    · exact h.elim
  all_goals (first | exact h.elim | (simp at he; done))

end Go.Aff

