import Derived.Test.YtipnjeciaagabaaG9

set_option linter.unusedSimpArgs false
set_option linter.unusedVariables false

/- One operation: what it does to the abstract state, and that it does so. -/
namespace Go.Aff
set_option linter.unusedVariables false
set_option linter.unusedSimpArgs false

variable {g g' : G} {w w' : World} {σ σ' : AST} {P : Program}

/-- A type that is no pointer has this method, with a receiver by value. -/
def methodIs (P : Program) (t : TypeId) (m : String) (f : FuncId) : Prop :=
  (∃ i row, P.info? t = some i ∧ i.methods.find? (·.name == m) = some row ∧ row.path.toList = [] ∧ row.func = some (f, false)) ∧ ∃ d, P.underlying t = some d ∧ ∀ e, d ≠ .pointer e
theorem method_run {t : TypeId} {m : String} {f : FuncId} (h : methodIs P t m f) (n : Nat) (v : Value) (w : World) : (method (n + 1) t v m).run P w = .ok (f, v) w := by
  obtain ⟨⟨i, row, h1, h2, h3, h4⟩, d, h5, h6⟩ := h
  simp only [method, typeInfo, Sem.run_bind, run_program, Result.andThen_ok, h1, h2, h3, h4, follow, Sem.run_pure, receiverAt, run_underlying h5]
  cases d <;> first | exact absurd rfl (h6 _) | simp [Place.get]

def callW (P : Program) (ρ : Operand → AV) (c : Call) (σ : AST) (K : AV → AST → Prop) : Prop := match c.callee with
  | .builtin .append => match c.args.toList with
    | [s, x] => appendW P c.argTypes (ρ s) (ρ x) σ K
    | _ => False
  | .builtin .len => match c.args.toList with
    | [x] => lenW P c.argTypes (ρ x) fun v => K v σ
    | _ => False
  | .builtin .copy => match c.args.toList with
    | [x, y] => copyW P c.argTypes (ρ x) (ρ y) σ K
    | _ => False
  | .builtin .max => mmW true (c.args.toList.map ρ) fun v => K v σ
  | .builtin .min => mmW false (c.args.toList.map ρ) fun v => K v σ
  | .builtin .delete => match c.args.toList with
    | [x, y] => deleteW P c.argTypes (ρ x) (ρ y) σ (K (.tuple []))
    | _ => False
  | .builtin .clear => match c.args.toList with
    | [x] => clearW P c.argTypes (ρ x) σ (K (.tuple []))
    | _ => False
  | .value f => match ρ f with
    | .fn (.func k) first cap => TCalls P k (first ++ c.args.toList.map ρ ++ cap) σ K
    | .fn (.yield l) [] [] => YCalls P l (c.args.toList.map ρ) σ K
    | _ => False
  | .invoke r m => match ρ r with
    | .iface t v => ∃ f, methodIs P t m f ∧ TCalls P f (v :: c.args.toList.map ρ) σ K
    | _ => False
  | _ => False

def opW (P : Program) (ρ : Operand → AV) (o : Oper) (σ : AST) (K : AV → AST → Prop) : Prop := match o.op with
  | .move x => K (ρ x) σ
  | .assign x => K (ρ x) σ
  | .pick c a b => boolW (ρ c) (K (ρ a) σ) (K (ρ b) σ)
  | .alloc e => ZeroOf P e (zeroA P 12 e) ∧ K (.ptr (some (σ.objs.length, []))) (σ.push (.cells (zeroA P 12 e)))
  | .box e x => (ρ x).known = true ∧ K (.ptr (some (σ.objs.length, []))) (σ.push (.cells (ρ x)))
  | .build t ps => ZeroOf P t (zeroA P 12 t) ∧ (zeroA P 12 t).isAgg = true ∧ Built P t ∧ fillW P t (ps.toList.map fun p => (p.1, ρ p.2)) (zeroA P 12 t) fun v => K v σ
  | .buildSlice t n ps => buildSliceW P t n (ps.toList.map fun p => (p.1, ρ p.2)) fun v => K v σ
  | .load t a => loadW P σ t (ρ a) fun v => K v σ
  | .store t a x => storeW P σ t (ρ a) (ρ x) fun σ' => K .undef σ'
  | .nilCheck x => match ρ x with
    | .ptr (some q) => K (.ptr (some q)) σ
    | .eptr v => K (.eptr v) σ
    | .fn (.func f) a b => K (.fn (.func f) a b) σ
    | _ => False
  | .binOp op t x y _ => binW P op t (ρ x) (ρ y) fun v => K v σ
  | .unOp op _ x => unW op (ρ x) fun v => K v σ
  | .convert s d x => convW P s d (ρ x) σ K
  | .makeInterface t x => (∃ d, P.underlying t = some d ∧ ∀ ms, d ≠ .interface ms) ∧ (ρ x).known = true ∧ K (.iface t (ρ x)) σ
  | .makeFunc f first cap => (∀ x ∈ first.toList ++ cap.toList, (ρ x).known = true) ∧ K (.fn f (first.toList.map ρ) (cap.toList.map ρ)) σ
  | .slice t x lo hi mx => sliceW P t (ρ x) (lo.map ρ) (hi.map ρ) (mx.map ρ) fun v => K v σ
  | .fieldAddr t x i => (∃ fs, P.underlying t = some (.struct fs)) ∧ fieldAddrW P σ t (ρ x) i fun v => K v σ
  | .field t x i => (∃ fs, P.underlying t = some (.struct fs)) ∧ fieldW P t (ρ x) i fun v => K v σ
  | .indexAddr t x i => indexAddrW P σ t (ρ x) (ρ i) fun v => K v σ
  | .index t x i => indexW P t (ρ x) (ρ i) fun v => K v σ
  | .extract x i => match ρ x with
    | .tuple vs => match vs[i]? with
      | some v => K v σ
      | none => False
    | _ => False
  | .lookup t x k ok => lookupW P σ t (ρ x) (ρ k) ok fun v => K v σ
  | .mapUpdate t m k v => mapUpdateW P σ t (ρ m) (ρ k) (ρ v) (K .undef)
  | .mapEntry t m k => mapEntryW P σ t (ρ m) (ρ k) K
  | .entryStore _ m st v => entryStoreW σ (ρ m) (ρ st) (ρ v) (K .undef)
  | .makeMap _ none => K (.mp (some σ.objs.length)) (σ.push (.map [] 0))
  | .makeSlice t n c => makeSliceW P t (ρ n) (ρ c) σ K
  | .range t x => rangeW P σ t (ρ x) K
  | .next x s => nextW σ (ρ x) s K
  | .entry x => entryW σ (ρ x) fun v => K v σ
  | .call c => callW P ρ c σ K
  | _ => False

/-- The fences that let everything in: of a function's own frame, of a round's. -/
abbrev FR (r : Option Nat) : Fence := { fn := fun _ => True, depth := none, alive := false, round := r }
theorem calls_in {r : Option Nat} {f : FuncId} {xs : Array Value} {R : Ending → World → Prop} {n : Nat} (h : Calls P f xs w R) : CallsIn (FR r) n P f xs w R := by
  have h1 : CallsIn Fence.wide n P f xs w R := callsIn_wide.2 h
  exact h1
theorem round_in {r : Option Nat} {l : Nat} {f : FuncId} {tmps : Array Value} {assign body : Code} {R : Ending → World → Prop} {n : Nat} (h : RoundIn Fence.wide n P l f tmps assign body w R) : RoundIn (FR r) n P l f tmps assign body w R := h

theorem upon_does {r : Option Nat} {o : Oper} {a : Act} {next : Act → World → Prop} {Q : Exit → Act → World → Prop} {s : Sem Value} {K : AV → AST → Prop} (h : Does P g w s K)
    (hn : ∀ g' w' v x σ', Ev g w g' w' → Inv g' σ' w' → relV g' w' v x → K v σ' → next (a.put o.dst x) w') :
    o.uponIn (FR r) 0 P a next Q (((do pure (.value (← s))) : Sem Next).run P w) := by
  obtain ⟨x, w', g', v, σ', hrun, hE, hI, hr, hK⟩ := h
  simp only [Sem.run_bind, hrun, Result.andThen_ok, Sem.run_pure]
  exact hn g' w' v x σ' hE hI hr hK

theorem mem_rel {ρ : Operand → AV} {r : Operand → Value} (hρ : ∀ x, relV g w (ρ x) (r x)) : ∀ {l : List Operand}, (∀ x ∈ l, (ρ x).known = true) → relVs g w (l.map ρ) (l.map r)
  | [], _ => by simp [relVs]
  | x :: l, h => by
    simp only [List.map_cons, relVs]
    obtain ⟨h1, h2⟩ := relV_known (hρ x) (h x (by simp))
    exact ⟨_, _, rfl, h1, h2, mem_rel hρ fun y hy => h y (by simp [hy])⟩

theorem relA_args {ρ : Operand → AV} {r : Operand → Value} (hρ : ∀ x, relV g w (ρ x) (r x)) (l : List Operand) : relA g w (l.map ρ) (l.map r) := by
  refine ⟨by simp, fun i v x hv hx => ?_⟩
  simp only [List.getElem?_map, Option.map_eq_some_iff] at hv hx
  obtain ⟨p, hp, rfl⟩ := hv
  obtain ⟨q, hq, rfl⟩ := hx
  rw [hp] at hq; cases hq
  exact hρ p

theorem relA_of_relVs : ∀ {vs : List AV} {l : List Value}, relVs g w vs l → relA g w vs l
  | [], l, h => by simp only [relVs] at h; subst h; exact ⟨rfl, fun i v x h => by simp at h⟩
  | v :: vs, l, h => by
    simp only [relVs] at h
    obtain ⟨x, r, rfl, h1, h2, h3⟩ := h
    obtain ⟨h4, h5⟩ := relA_of_relVs h3
    refine ⟨by simp [h4], fun i u y hu hy => ?_⟩
    cases i with
    | zero => simp at hu hy; subst hu hy; exact relV_of h1 h2
    | succ i => simp at hu hy; exact h5 i u y hu hy

theorem relA_append {a b : List AV} {x y : List Value} (h1 : relA g w a x) (h2 : relA g w b y) : relA g w (a ++ b) (x ++ y) := by
  refine ⟨by simp [h1.1, h2.1], fun i v z hv hz => ?_⟩
  rw [List.getElem?_append] at hv hz
  rw [← h1.1] at hz
  split at hv
  · rename_i hlt; rw [if_pos hlt] at hz; exact h1.2 i v z hv hz
  · rename_i hlt; rw [if_neg hlt] at hz; exact h2.2 _ v z hv hz

theorem callFunc_run {k : FuncId} (h : FnOk P k) (args : Array Value) (w : World) : (callFunc k args).run P w = .ok (.enter k args) w := by
  obtain ⟨fn, h1, h2, h3⟩ := h
  simp only [callFunc, Sem.run_bind, run_program, Result.andThen_ok, h1, h2, h3, Bool.false_eq_true, if_false, Sem.run_pure]

theorem two_args {ρ : Operand → AV} {l : Array Operand} {a b : AV} (h : l.toList.map ρ = [a, b]) : ∃ x y, l = #[x, y] ∧ ρ x = a ∧ ρ y = b := by
  have hl : l.toList.length = 2 := by have := congrArg List.length h; simpa using this
  obtain ⟨x, y, hxy⟩ : ∃ x y, l.toList = [x, y] := by
    generalize l.toList = q at hl
    rcases q with _ | ⟨x, _ | ⟨y, _ | ⟨z, q⟩⟩⟩ <;> simp at hl
    exact ⟨x, y, rfl⟩
  rw [hxy] at h
  simp only [List.map_cons, List.map_nil, List.cons.injEq, and_true] at h
  exact ⟨x, y, by apply Array.ext'; rw [hxy], h.1, h.2⟩

theorem op_sound {r : Option Nat} {o : Oper} {a : Act} {next : Act → World → Prop} {Q : Exit → Act → World → Prop} {ρ : Operand → AV} {K : AV → AST → Prop} (hI : Inv g σ w) (hρ : ∀ x, relV g w (ρ x) (a.eval x))
    (h : opW P ρ o σ K) (hn : ∀ g' w' v x σ', Ev g w g' w' → Inv g' σ' w' → relV g' w' v x → K v σ' → next (a.put o.dst x) w') :
    o.uponIn (FR r) 0 P a next Q ((execOp a.eval o).run P w) := by
  unfold opW at h
  unfold execOp
  split at h <;> first | exact h.elim | (rename_i heq; rw [heq]; simp only)
  · rename_i x
    exact hn g w _ _ σ (Ev.refl _ _) hI (hρ x) h
  · rename_i x
    exact hn g w _ _ σ (Ev.refl _ _) hI (hρ x) h
  · rename_i c x y
    unfold boolW at h
    split at h
    · rename_i b hb
      have hc := hρ c
      rw [hb] at hc
      have hv := relV_bool hc
      simp only [Sem.run_bind, hv, asBool, Sem.run_pure, Result.andThen_ok]
      cases b
      · exact hn g w _ _ σ (Ev.refl _ _) hI (hρ y) (h.2 rfl)
      · exact hn g w _ _ σ (Ev.refl _ _) hI (hρ x) (h.1 rfl)
    · exact h.elim
  · rename_i e
    exact upon_does (alloc_does hI h.1 h.2) hn
  · rename_i e x
    exact upon_does (box_does hI (hρ x) h.1 h.2) hn
  · rename_i t ps
    obtain ⟨h1, h2, h3, h4⟩ := h
    have hd := build_does (P := P) (K := K) (xs := ps.toList.map fun p => (p.1, a.eval p.2)) hI h1 h3 (by simp) (fun j p x hp hx => by
      simp only [List.getElem?_map, Option.map_eq_some_iff] at hp hx
      obtain ⟨q, hq, rfl⟩ := hp
      obtain ⟨q', hq', rfl⟩ := hx
      rw [hq] at hq'; cases hq'
      exact hρ _) h4 h2
    have e : (ps.map fun p => (p.1, a.eval p.2)) = (ps.toList.map fun p => (p.1, a.eval p.2)).toArray := by apply Array.ext'; simp
    have := upon_does (r := r) (o := o) (Q := Q) hd hn
    rw [← e] at this
    exact this
  · rename_i t n ps
    have hd := buildSlice_does (P := P) (K := K) (xs := ps.toList.map fun p => (p.1, a.eval p.2)) hI (by simp) (fun j p x hp hx => by
      simp only [List.getElem?_map, Option.map_eq_some_iff] at hp hx
      obtain ⟨q, hq, rfl⟩ := hp
      obtain ⟨q', hq', rfl⟩ := hx
      rw [hq] at hq'; cases hq'
      exact hρ _) h
    have e : (ps.map fun p => (p.1, a.eval p.2)) = (ps.toList.map fun p => (p.1, a.eval p.2)).toArray := by apply Array.ext'; simp
    have := upon_does (r := r) (o := o) (Q := Q) hd hn
    rw [← e] at this
    exact this
  · rename_i t x
    exact upon_does (load_does hI (hρ x) h) hn
  · rename_i t x y
    obtain ⟨w', g', σ', hrun, hE, hI', hK⟩ := store_does hI (hρ x) (hρ y) h
    simp only [Sem.run_bind, hrun, Result.andThen_ok, Sem.run_pure]
    exact hn g' w' .undef _ σ' hE hI' (.inl rfl) hK
  · rename_i x
    split at h
    · rename_i q hq
      have hx := hρ x
      rw [hq] at hx
      obtain ⟨i, p⟩ := q
      obtain ⟨b, sh, off, h1, h2, h3⟩ := relV_ptr hx
      rw [h3]
      rw [h3] at hx
      exact hn g w _ _ σ (Ev.refl _ _) hI hx h
    · rename_i v hq
      have hx := hρ x
      rw [hq] at hx
      obtain ⟨b, off, cv, h1, h2⟩ := relV_eptr hx
      rw [h1]
      rw [h1] at hx
      exact hn g w _ _ σ (Ev.refl _ _) hI hx h
    · rename_i f a' b' hq
      have hx := hρ x
      rw [hq] at hx
      have h0 := (relV_scalar hx rfl rfl).1
      simp only [relC, List.cons.injEq, and_true] at h0
      obtain ⟨p, q, h1, h2, h3⟩ := h0
      rw [h1]
      rw [h1] at hx
      exact hn g w _ _ σ (Ev.refl _ _) hI hx h
    · exact h.elim
  · rename_i op t x y yt
    exact upon_does (bin_does hI (hρ x) (hρ y) h) hn
  · rename_i op t x
    exact upon_does (un_does hI (hρ x) h) hn
  · rename_i s d x
    exact upon_does (conv_does hI (hρ x) h) hn
  · rename_i t x
    obtain ⟨⟨d, hd, hni⟩, hk, hK⟩ := h
    obtain ⟨h1, h2⟩ := relV_known (hρ x) hk
    have hrun : (Instr.makeInterface t (a.eval x)).run P w = .ok (.iface t (a.eval x)) w := by
      simp only [Instr.makeInterface, Sem.run_bind, run_underlying hd, Result.andThen_ok]
      cases d <;> first | (exact absurd rfl (hni _)) | rfl
    exact upon_does (K := K) (Does.pure hI hrun (relV_of (by simp only [relC, Value.cells]; exact ⟨_, rfl, h1, h2⟩) rfl) hK) hn
  · rename_i f first cap
    obtain ⟨hk, hK⟩ := h
    have hrun : (Instr.makeFunc f (first.map a.eval) (cap.map a.eval)).run P w = .ok (.func f (first.map a.eval) (cap.map a.eval)) w := rfl
    have r1 := mem_rel hρ (l := first.toList) fun x hx => hk x (by simp at hx ⊢; exact .inl hx)
    have r2 := mem_rel hρ (l := cap.toList) fun x hx => hk x (by simp at hx ⊢; exact .inr hx)
    exact upon_does (K := K) (Does.pure hI hrun (relV_of (by simp only [relC, Value.cells]; exact ⟨_, _, rfl, by simpa using r1, by simpa using r2⟩) rfl) hK) hn
  · rename_i t x lo hi mx
    have opt : ∀ (o : Option Operand), relO g w (o.map ρ) (o.map a.eval) := by
      intro o
      cases o with
      | none => exact .inl ⟨rfl, rfl⟩
      | some x => exact .inr ⟨_, _, rfl, rfl, hρ x⟩
    exact upon_does (slice_does hI (hρ x) (opt lo) (opt hi) (opt mx) h) hn
  · rename_i t x i
    exact upon_does (fieldAddr_does hI (hρ x) h.1 h.2) hn
  · rename_i t x i
    exact upon_does (field_does hI (hρ x) h.1 h.2) hn
  · rename_i t x i
    exact upon_does (indexAddr_does hI (hρ x) (hρ i) h) hn
  · rename_i t x i
    exact upon_does (index_does hI (hρ x) (hρ i) h) hn
  · rename_i x i
    split at h
    · rename_i vs hq
      split at h
      · rename_i v hv
        have hx := hρ x
        rw [hq] at hx
        exact upon_does (extract_does hI hx hv h) hn
      · exact h.elim
    · exact h.elim
  · rename_i t x k ok
    exact upon_does (lookup_does hI (hρ x) (hρ k) h) hn
  · rename_i t m k v
    obtain ⟨w', g', σ', hrun, hE, hI', hK⟩ := mapUpdate_does hI (hρ m) (hρ k) (hρ v) h
    simp only [Sem.run_bind, hrun, Result.andThen_ok, Sem.run_pure]
    exact hn g' w' .undef _ σ' hE hI' (.inl rfl) hK
  · rename_i t m k
    exact upon_does (mapEntry_does hI (hρ m) (hρ k) h) hn
  · rename_i t m st v
    obtain ⟨w', g', σ', hrun, hE, hI', hK⟩ := entryStore_does (t := t) hI (hρ m) (hρ st) (hρ v) h
    rw [Sem.run_bind, hrun]
    simp only [Result.andThen_ok, Sem.run_pure]
    exact hn g' w' .undef _ σ' hE hI' (.inl rfl) hK
  · rename_i t
    exact upon_does (K := K) (makeMap_does (t := t) hI h) hn
  · rename_i t n c
    exact upon_does (makeSlice_does hI (hρ n) (hρ c) h) hn
  · rename_i t x
    exact upon_does (range_does hI (hρ x) h) hn
  · rename_i x s
    exact upon_does (next_does (ty := o.type) hI (hρ x) h) hn
  · rename_i x
    exact upon_does (entry_does hI (hρ x) h) hn
  · rename_i c
    unfold callW at h
    split at h
    · rename_i hcal
      split at h
      · rename_i s x hargs
        have hm : c.args.map a.eval = #[a.eval s, a.eval x] := by
          have : (c.args.map a.eval).toList = [a.eval s, a.eval x] := by simp [hargs]
          apply Array.ext'; simpa using this
        have hd := append_does (ty := o.type) hI (hρ s) (hρ x) h
        have := upon_does (r := r) (o := o) (Q := Q) hd hn
        simpa [resolve, hcal, invoke, builtin, hm] using this
      · exact h.elim
    · rename_i hcal
      split at h
      · rename_i x hargs
        have hm : c.args.map a.eval = #[a.eval x] := by
          have : (c.args.map a.eval).toList = [a.eval x] := by simp [hargs]
          apply Array.ext'; simpa using this
        obtain ⟨t, ht, h⟩ := h
        have hd : Does P g w (Builtin.len_ c.argTypes o.type #[a.eval x]) K := by
          have hx := hρ x
          split at h
          · rename_i s hs
            rw [hs] at hx
            obtain ⟨h1, h2⟩ := relV_str hx
            rw [h1]
            exact Does.pure hI (v := .int .i64 s.length) (x := .int .i64 s.length) (by simp [Builtin.len_, ht, run_underlying h.1, goInt, bytes_size]) (relV_mkInt _ _) (h.2 h2)
          · rename_i tk xs hs
            rw [hs] at hx
            obtain ⟨ad, aa, cc, es, css, h1, _, h2, h3, h4, _⟩ := relV_slice hx
            obtain ⟨⟨e, he⟩, hK⟩ := h
            rw [h1]
            exact Does.pure hI (v := .int .i64 xs.length) (x := .int .i64 xs.length) (by simp [Builtin.len_, ht, run_underlying he, goInt]) (relV_mkInt _ _) (hK (by omega))
          · rename_i i p n hs
            rw [hs] at hx
            have hsc := (relV_scalar hx rfl rfl).1
            simp only [relC, List.cons.injEq, and_true] at hsc
            obtain ⟨b, sh, oo, cc, _, _, h1, h3, h4⟩ := hsc
            obtain ⟨⟨e, he⟩, hK⟩ := h
            rw [h1]
            exact Does.pure hI (v := .int .i64 n) (x := .int .i64 n) (by simp [Builtin.len_, ht, run_underlying he, goInt]) (relV_mkInt _ _) (hK (by omega))
          · exact h.elim
        have := upon_does (r := r) (o := o) (Q := Q) hd hn
        simpa [resolve, hcal, invoke, builtin, hm] using this
      · exact h.elim
    · rename_i hcal
      split at h
      · rename_i x y hargs
        have hm : c.args.map a.eval = #[a.eval x, a.eval y] := by
          have : (c.args.map a.eval).toList = [a.eval x, a.eval y] := by simp [hargs]
          apply Array.ext'; simpa using this
        have hd := copy_does (ty := o.type) hI (hρ x) (hρ y) h
        have := upon_does (r := r) (o := o) (Q := Q) hd hn
        simpa [resolve, hcal, invoke, builtin, hm] using this
      · exact h.elim
    · rename_i hcal
      unfold mmW at h
      split at h
      · rename_i k p k' q hargs
        obtain ⟨rfl, hK⟩ := h
        have hm : ∃ x y, c.args = #[x, y] ∧ ρ x = .int k p ∧ ρ y = .int k q := by
          exact two_args hargs
        obtain ⟨x, y, hc, hx, hy⟩ := hm
        have h1 := relV_int (hx ▸ hρ x)
        have h2 := relV_int (hy ▸ hρ y)
        have hd : Does P g w (Builtin.max_ c.argTypes o.type #[.int k p, .int k q]) K := by
          refine Does.pure hI (v := .int k (max p q)) (x := .int k (max p q)) ?_ (relV_mkInt _ _) (by simpa using hK)
          rw [run_max_int2]
          congr 2
          by_cases hlt : q > p
          · rw [if_pos hlt]; omega
          · rw [if_neg hlt]; omega
        have := upon_does (r := r) (o := o) (Q := Q) hd hn
        simpa [resolve, hcal, invoke, builtin, hc, h1, h2] using this
      · exact h.elim
    · rename_i hcal
      unfold mmW at h
      split at h
      · rename_i k p k' q hargs
        obtain ⟨rfl, hK⟩ := h
        have hm : ∃ x y, c.args = #[x, y] ∧ ρ x = .int k p ∧ ρ y = .int k q := by
          exact two_args hargs
        obtain ⟨x, y, hc, hx, hy⟩ := hm
        have h1 := relV_int (hx ▸ hρ x)
        have h2 := relV_int (hy ▸ hρ y)
        have hd : Does P g w (Builtin.min_ c.argTypes o.type #[.int k p, .int k q]) K := by
          refine Does.pure hI (v := .int k (min p q)) (x := .int k (min p q)) ?_ (relV_mkInt _ _) (by simpa using hK)
          rw [run_min_int2]
          congr 2
          by_cases hlt : q < p
          · rw [if_pos hlt]; omega
          · rw [if_neg hlt]; omega
        have := upon_does (r := r) (o := o) (Q := Q) hd hn
        simpa [resolve, hcal, invoke, builtin, hc, h1, h2] using this
      · exact h.elim
    · rename_i hcal
      split at h
      · rename_i x y hargs
        have hm : c.args.map a.eval = #[a.eval x, a.eval y] := by
          have : (c.args.map a.eval).toList = [a.eval x, a.eval y] := by simp [hargs]
          apply Array.ext'; simpa using this
        have hd := delete_does (ty := o.type) hI (hρ x) (hρ y) h
        have := upon_does (r := r) (o := o) (Q := Q) hd hn
        simpa [resolve, hcal, invoke, builtin, hm] using this
      · exact h.elim
    · rename_i hcal
      split at h
      · rename_i x hargs
        have hm : c.args.map a.eval = #[a.eval x] := by
          have : (c.args.map a.eval).toList = [a.eval x] := by simp [hargs]
          apply Array.ext'; simpa using this
        have hd := clear_does (ty := o.type) hI (hρ x) h
        have := upon_does (r := r) (o := o) (Q := Q) hd hn
        simpa [resolve, hcal, invoke, builtin, hm] using this
      · exact h.elim
    · rename_i f hcal
      split at h
      · rename_i k first cap hf
        have hx := hρ f
        rw [hf] at hx
        have h0 := (relV_scalar hx rfl rfl).1
        simp only [relC, List.cons.injEq, and_true] at h0
        obtain ⟨p, q, h1, h2, h3⟩ := h0
        have hrun : ((do let d ← resolve a.eval c o.type; invoke d.target d.args) : Sem Next).run P w = .ok (.enter k (p ++ c.args.map a.eval ++ q)) w := by
          simp [resolve, hcal, h1, Deferred.ofValue, invoke, callFunc_run h.1]
        rw [hrun, Oper.uponIn_enter]
        refine ⟨fun h => by simp at h, calls_in ?_⟩
        have hA : relA g w (first ++ c.args.toList.map ρ ++ cap) (p ++ c.args.map a.eval ++ q).toList := by
          simp only [Array.toList_append, Array.toList_map]
          exact relA_append (relA_append (relA_of_relVs h2) (relA_args hρ _)) (relA_of_relVs h3)
        refine (h.2 g w _ hI hA).mono ?_
        rintro e w' ⟨x, g', v, σ', rfl, hE, hI', hr, hK⟩
        exact hn g' w' v x σ' hE hI' hr hK
      · rename_i l hf
        have hx := hρ f
        rw [hf] at hx
        have h0 := (relV_scalar hx rfl rfl).1
        simp only [relC, List.cons.injEq, and_true] at h0
        obtain ⟨p, q, h1, h2, h3⟩ := h0
        simp only [relVs] at h2 h3
        obtain rfl : p = #[] := by cases p; simp_all
        obtain rfl : q = #[] := by cases q; simp_all
        obtain ⟨fn, tmps, assign, body, hy, hR⟩ := h g w (c.args.map a.eval) hI (by simp only [Array.toList_map]; exact relA_args hρ _)
        have hrun : ((do let d ← resolve a.eval c o.type; invoke d.target d.args) : Sem Next).run P w = .ok (.round l fn tmps assign body) w := by
          simp [resolve, hcal, h1, Deferred.ofValue, invoke, hy]
        rw [hrun, Oper.uponIn_round]
        refine ⟨fun h => by simp at h, round_in (hR.mono ?_)⟩
        rintro e w' ⟨x, g', v, σ', rfl, hE, hI', hr, hK⟩
        exact hn g' w' v x σ' hE hI' hr hK
      · exact h.elim
    · rename_i rc m hcal
      split at h
      · rename_i t v hf
        obtain ⟨f, hm, h⟩ := h
        have hx := hρ rc
        rw [hf] at hx
        have h0 := (relV_scalar hx rfl rfl).1
        simp only [relC, List.cons.injEq, and_true] at h0
        obtain ⟨y, h1, h2, h3⟩ := h0
        have hmr : ∀ W, (method (P.types.size + Made.depth) t y m).run P W = .ok (f, y) W := fun W => method_run hm _ y W
        have he : (#[Value.iface t y] ++ c.args.map a.eval).extract 1 (#[Value.iface t y] ++ c.args.map a.eval).size = c.args.map a.eval := by
          apply Array.ext'; simp
          exact List.take_of_length_le (by simp)
        have hrun : ((do let d ← resolve a.eval c o.type; invoke d.target d.args) : Sem Next).run P w = .ok (.enter f (#[y] ++ c.args.map a.eval)) w := by
          simp only [resolve, hcal, Sem.run_bind, Sem.run_pure, Result.andThen_ok, h1, invoke]
          have h00 : (#[Value.iface t y] ++ c.args.map a.eval)[0]? = some (Value.iface t y) := by rw [Array.getElem?_append_left (show 0 < #[Value.iface t y].size from Nat.zero_lt_one)]; rfl
          rw [h00]
          simp only [he, callMethod, Sem.run_bind, run_program, Result.andThen_ok, hmr]
          exact callFunc_run h.1 _ w
        rw [hrun, Oper.uponIn_enter]
        refine ⟨fun h => by simp at h, calls_in ?_⟩
        have hA : relA g w (v :: c.args.toList.map ρ) (#[y] ++ c.args.map a.eval).toList := by
          simp only [Array.toList_append, Array.toList_map]
          exact relA_append (a := [v]) (relA_of_relVs (by simp only [relVs]; exact ⟨y, [], rfl, h2, h3, rfl⟩)) (relA_args hρ _)
        refine (h.2 g w _ hI hA).mono ?_
        rintro e w' ⟨x, g', v, σ', rfl, hE, hI', hr, hK⟩
        exact hn g' w' v x σ' hE hI' hr hK
      · exact h.elim
    · exact h.elim

theorem semAt_sound {r : Option Nat} {o : Oper} {ρ : Operand → AV} {K : AV → AST → Prop} (h : opW P ρ o σ K) (f : Operand → Value) : o.semAt r f = execOp f o := by
  refine Oper.semAt_eq r f o fun c hc => ?_
  unfold opW at h
  rw [hc] at h
  exact h

end Go.Aff

