import Derived.Test.YtndndlofepehiaaG7

set_option linter.unusedSimpArgs false
set_option linter.unusedVariables false

/- What operations do, soundly: make of slices. -/
namespace Go.Aff
set_option linter.unusedVariables false
set_option linter.unusedSimpArgs false

variable {g g' : G} {w w' : World} {σ σ' : AST} {P : Program}

theorem wrap64 {n : Int} (h0 : -9223372036854775808 ≤ n) (h1 : n ≤ 9223372036854775807) : IntKind.i64.wrap n = n := by
  simp only [IntKind.wrap, IntKind.signed, IntKind.bits]
  have e : (2 : Int) ^ 64 = 18446744073709551616 := by decide
  have e' : (2 : Int) ^ (64 - 1) = 9223372036854775808 := by decide
  simp only [e, e']
  try simp
  try omega
theorem range_flat (zl : List Value) (hz : 0 < zl.length) : ∀ n : Nat, (List.range (n * zl.length)).map (fun i => zl.toArray[i % zl.length]!) = (List.replicate n zl).flatten
  | 0 => by simp
  | n + 1 => by
    rw [Nat.add_mul, Nat.one_mul, List.range_add, List.map_append, range_flat zl hz n, List.replicate_succ', List.flatten_append]
    congr 1
    simp only [List.map_map, List.flatten_cons, List.flatten_nil, List.append_nil]
    apply List.ext_getElem?
    intro i
    simp only [List.getElem?_map, List.getElem?_range]
    by_cases h : i < zl.length
    · rw [List.getElem?_range h]
      have h1 : (n * zl.length + i) % zl.length = i := by rw [Nat.mul_comm, Nat.mul_add_mod, Nat.mod_eq_of_lt h]
      simp [h1, h]
    · rw [List.getElem?_eq_none (by simp; omega), List.getElem?_eq_none (by omega)]; rfl
theorem relPs_rep {z : AV} {zl : List Value} (h : relC g w z zl) : ∀ n : Nat, relPs g w (List.replicate n z) (List.replicate n zl).flatten
  | 0 => by simp [relPs]
  | n + 1 => by
    simp only [List.replicate_succ, List.flatten_cons, relPs]
    exact ⟨zl, _, rfl, h, relPs_rep h n⟩
theorem relEs_rep {z : AV} {zl : List Value} (h : relC g w z zl) : ∀ n : Nat, relEs g w zl.length (List.replicate n z) (List.replicate n zl).flatten
  | 0 => by simp [relEs]
  | n + 1 => by
    simp only [List.replicate_succ, List.flatten_cons, relEs]
    exact ⟨zl, _, rfl, rfl, h, relEs_rep h n⟩
theorem makeSlice_does (hI : Inv g σ w) {t : TypeId} {n c : AV} {N C : Value} {K : AV → AST → Prop} (hn : relV g w n N) (hc : relV g w c C) (h : makeSliceW P t n c σ K) : Does P g w (Instr.makeSlice t N C) K := by
  unfold makeSliceW at h
  split at h
  · rename_i a b
    obtain rfl := relV_int hn
    obtain rfl := relV_int hc
    obtain ⟨h0, hab, e, z, hu, hz, hpos, hroom, hbm, h⟩ := h
    obtain ⟨i, zv, hi, hzv, hconc, hag, hsz⟩ := hz
    have hcellsz : zv.cells.size = P.cellsOf e := by
      have := relC_size (conc_rel g w hconc)
      simp only [Array.length_toList] at this
      rw [this, ← hsz]; simp [Program.cellsOf, hi]
    have hib : i.bytes = P.bytesOf e := by simp [Program.bytesOf, hi]
    have his : i.size = P.cellsOf e := by simp [Program.cellsOf, hi]
    have hzr : ∀ W, (zeroValue e).run P W = .ok zv W := fun W => by simp [zeroValue, typeInfo, hi, hzv]
    have wa : IntKind.i64.wrap a = a := wrap64 (by omega) (by omega)
    have wb : IntKind.i64.wrap b = b := wrap64 (by omega) (by omega)
    have hbn : (b.toNat : Int) = b := Int.toNat_of_nonneg (by omega)
    have hbb : (P.bytesOf e : Int) * b ≤ 16777216 := by
      have e1 : (P.bytesOf e : Int) * b = ((b.toNat * P.bytesOf e : Nat) : Int) := by rw [Int.natCast_mul, hbn, Int.mul_comm]
      rw [e1]; omega
    let cells : Array Value := (Array.range (b.toNat * P.cellsOf e)).map (zv.cells[· % zv.cells.size]!)
    have hcl : cells.toList = (List.replicate b.toNat zv.cells.toList).flatten := by
      have := range_flat zv.cells.toList (by simp [hcellsz, hpos]) b.toNat
      rw [← this]
      simp [cells, hcellsz, Array.toList_range]
    have hcs : cells.size = b.toNat * P.cellsOf e := by simp [cells]
    have hrun : (Instr.makeSlice t (.int .i64 a) (.int .i64 b)).run P w = .ok (.slice (some ⟨w.heap.size, 0, none⟩) a.toNat b.toNat) (w.alloc (.cells cells e)) := by
      have n1 : ¬ (b < 0 ∨ (2 ^ 48 : Int) < i.bytes * b) := by rw [hib]; omega
      have n2 : ¬ a < 0 := by omega
      have n3 : ¬ b < a := by omega
      have n4 : ¬ b < 0 := by omega
      have n5 : ¬ ((2 ^ 48 : Int) < i.bytes * b) := fun h => n1 (.inr h)
      have n6 : ¬ (b.toNat * i.bytes > roomBytes) := by rw [hib]; unfold roomBytes; omega
      by_cases hz0 : b.toNat * P.cellsOf e = 0
      · have hce : cells = #[] := by apply Array.eq_empty_of_size_eq_zero; omega
        have hb0 : b.toNat = 0 := by
          rcases Nat.mul_eq_zero.1 hz0 with h | h
          · exact h
          · omega
        have hbz : b = 0 := by omega
        subst hbz
        have haz : a = 0 := by omega
        subst haz
        have e0 : ∀ f : Nat → Value, Array.map f (Array.range 0) = #[] := fun f => by apply Array.ext'; simp
        simp [Instr.makeSlice, run_underlying hu, asInt, asIntOf, typeInfo, hi, wa, wb, askRoom, newRow, sizeOf, his, e0, hce]
      · simp [Instr.makeSlice, run_underlying hu, asInt, asIntOf, typeInfo, hi, wa, wb, n2, n3, n4, n5, n6, askRoom, sizeOf, his, hz0, hzr, newRow]
        rw [if_neg (by rw [hib]; omega)]
    have main : ∀ tk : Tk, tk = .full → a = b → K (.slice tk (List.replicate a.toNat z)) σ → Does P g w (Instr.makeSlice t (.int .i64 a) (.int .i64 b)) K := by
      rintro tk rfl rfl hK
      have hes := relEs_rep (conc_rel g w hconc) a.toNat
      rw [← hcl] at hes
      obtain ⟨hE, hI'⟩ := inv_row (c := cells) (e := e) (fr := (0, 0)) (n := cells.size) hI (Nat.le_refl _)
      refine ⟨_, _, _, _, σ, hrun, hE, hI', relV_of ?_ rfl, hK⟩
      simp only [relC, Value.cells]
      refine ⟨some (mkAddr (w.heap.size, 0)), some (w.heap.size, 0), a.toNat, zv.cells.toList.length, cells.toList, by simp [mkAddr], .inl rfl, relEs_mono hE hes, by simp, by unfold maxL; omega, (fun h => by cases h), (fun b o hbo => .inr ?_), ?_⟩
      · simp only [Option.some.injEq, Prod.mk.injEq] at hbo
        obtain ⟨rfl, rfl⟩ := hbo
        exact ⟨⟨cells, e, (0, 0), alloc_new, fun j hj => by simp⟩, .inr ⟨cells.size, by simp [G.row], by simp⟩⟩
      · simp [tkOk]
    rcases h with ⟨rfl, hK⟩ | ⟨rfl, hK⟩ | ⟨rfl, hK⟩
    · have hps := relPs_rep (conc_rel g w hconc) a.toNat
      rw [← hcl] at hps
      have hin : ∀ g', Ev g w g' (w.alloc (.cells cells e)) → objIn g' (w.alloc (.cells cells e)) w.heap.size (AV.agg (List.replicate a.toNat z)).shape (.cells (.agg (List.replicate a.toNat z))) :=
        fun g' hE => ⟨_, _, alloc_new, relC_mono hE (by simp only [relC]; exact hps), rfl⟩
      obtain ⟨hE, hI'⟩ := inv_push hI hin
      refine ⟨_, _, _, .arr σ.objs.length [] a.toNat, _, hrun, hE, hI', relV_of ?_ rfl, hK⟩
      simp only [relC, Value.cells]
      exact ⟨w.heap.size, (AV.agg (List.replicate a.toNat z)).shape, 0, a.toNat, by rw [hI.nobj]; simp, by simp [AV.shape, Shape.off], rfl, Nat.le_refl _, by unfold maxL; omega⟩
    · exact main .full rfl rfl hK
    · obtain ⟨hE1, hI1⟩ := inv_row (c := cells) (e := e) (fr := (0, 0)) (n := 0) hI (Nat.zero_le _)
      obtain ⟨hE2, hI2⟩ := inv_tok hI1 ⟨some (w.heap.size, 0), 0, b.toNat, P.cellsOf e⟩ (Nat.zero_le _) (by simp only; unfold maxL; omega) (by simp) (by
        intro b' o' hbo hlt
        simp only [Option.some.injEq, Prod.mk.injEq] at hbo
        obtain ⟨rfl, rfl⟩ := hbo
        refine ⟨by simp [G.row], ⟨cells, e, (0, 0), alloc_new, by simp [hcs], .inl rfl⟩, ?_⟩
        intro t' e' ht o'' ha hlt'
        obtain ⟨_, _, _, _, h5⟩ := hI.tok t' e' ht
        obtain ⟨_, c2, el2, fr2, hc2, _⟩ := h5 _ _ ha hlt'
        have := lt_of_blk hc2
        omega)
      refine ⟨_, _, _, .slice (.own σ.toks.length) [], _, hrun, hE1.trans hE2, hI2, relV_of ?_ rfl, hK⟩
      simp only [relC, Value.cells]
      refine ⟨some (mkAddr (w.heap.size, 0)), some (w.heap.size, 0), b.toNat, P.cellsOf e, [], by simp [mkAddr], .inl rfl, by simp [relEs], by simp, by unfold maxL; omega, (fun h => by cases h), (fun b o hbo => .inl rfl), ?_⟩
      exact ⟨⟨some (w.heap.size, 0), 0, b.toNat, P.cellsOf e⟩, by rw [hI.ntok]; simp [G.row], by simp, fun _ => ⟨rfl, rfl⟩, .inl rfl⟩
  · exact h.elim

/-! ### Weaker ends -/
theorem lookupW_mono {t : TypeId} {x k : AV} {ok : Bool} {K K' : AV → Prop} (hk : ∀ v, K v → K' v) (h : lookupW P σ t x k ok K) : lookupW P σ t x k ok K' := by
  obtain ⟨kt, et, h1, h2, h⟩ := h
  refine ⟨kt, et, h1, h2, ?_⟩
  split at h
  · exact ⟨h.1, hk _ h.2⟩
  · rename_i i
    cases ho : σ.objs[i]? with
    | none => simp [ho] at h
    | some o =>
      cases o with
      | map es ck =>
        simp only [ho] at h ⊢
        obtain ⟨r, hr, h⟩ := h
        refine ⟨r, hr, ?_⟩
        cases r with
        | none => exact ⟨h.1, hk _ h.2⟩
        | some j => exact fun e he => hk _ (h e he)
      | _ => simp [ho] at h
  · exact h.elim
theorem mapUpdateW_mono {t : TypeId} {m k v : AV} {K K' : AST → Prop} (hk : ∀ s, K s → K' s) (h : mapUpdateW P σ t m k v K) : mapUpdateW P σ t m k v K' := by
  obtain ⟨kt, et, h1, h2, h3, h⟩ := h
  refine ⟨kt, et, h1, h2, h3, ?_⟩
  split at h
  · rename_i i
    cases ho : σ.objs[i]? with
    | none => simp [ho] at h
    | some o =>
      cases o with
      | map es ck =>
        simp only [ho] at h ⊢
        obtain ⟨r, hr, h⟩ := h
        refine ⟨r, hr, ?_⟩
        cases r with
        | none => exact hk _ h
        | some j => exact hk _ h
      | _ => simp [ho] at h
  · exact h.elim
theorem mapEntryW_mono {t : TypeId} {m k : AV} {K K' : AV → AST → Prop} (hk : ∀ v s, K v s → K' v s) (h : mapEntryW P σ t m k K) : mapEntryW P σ t m k K' := by
  obtain ⟨kt, et, h1, h2, h⟩ := h
  refine ⟨kt, et, h1, h2, ?_⟩
  split at h
  · rename_i i
    cases ho : σ.objs[i]? with
    | none => simp [ho] at h
    | some o =>
      cases o with
      | map es ck =>
        simp only [ho] at h ⊢
        obtain ⟨r, hr, h⟩ := h
        refine ⟨r, hr, ?_⟩
        cases r with
        | none => exact ⟨h.1, hk _ _ h.2⟩
        | some j => exact fun e he => hk _ _ (h e he)
      | _ => simp [ho] at h
  · exact h.elim
theorem entryStoreW_mono {m st v : AV} {K K' : AST → Prop} (hk : ∀ s, K s → K' s) (h : entryStoreW σ m st v K) : entryStoreW σ m st v K' := by
  obtain ⟨h1, h⟩ := h
  refine ⟨h1, ?_⟩
  split at h
  · rename_i i k b
    cases ho : σ.objs[i]? with
    | none => simp [ho] at h
    | some o =>
      cases o with
      | map es ck =>
        simp only [ho] at h ⊢
        obtain ⟨j, e, h2, h3, h4⟩ := h
        exact ⟨j, e, h2, h3, hk _ h4⟩
      | _ => simp [ho] at h
  · exact h.elim
theorem deleteW_mono {ts : Array TypeId} {m k : AV} {K K' : AST → Prop} (hk : ∀ s, K s → K' s) (h : deleteW P ts m k σ K) : deleteW P ts m k σ K' := by
  obtain ⟨t, kt, et, h0, h1, h2, h⟩ := h
  refine ⟨t, kt, et, h0, h1, h2, ?_⟩
  split at h
  · exact hk _ h
  · rename_i i
    cases ho : σ.objs[i]? with
    | none => simp [ho] at h
    | some o =>
      cases o with
      | map es ck =>
        simp only [ho] at h ⊢
        obtain ⟨r, hr, h⟩ := h
        refine ⟨r, hr, ?_⟩
        cases r with
        | none => exact hk _ h
        | some j => exact hk _ h
      | _ => simp [ho] at h
  · exact h.elim
theorem clearW_mono {ts : Array TypeId} {m : AV} {K K' : AST → Prop} (hk : ∀ s, K s → K' s) (h : clearW P ts m σ K) : clearW P ts m σ K' := by
  obtain ⟨h0, h⟩ := h
  refine ⟨h0, ?_⟩
  split at h
  · exact hk _ h
  · rename_i i
    cases ho : σ.objs[i]? with
    | none => simp [ho] at h
    | some o =>
      cases o with
      | map es ck => simp only [ho] at h ⊢; exact hk _ h
      | _ => simp [ho] at h
  · exact h.elim
theorem makeSliceW_mono {t : TypeId} {n c : AV} {K K' : AV → AST → Prop} (hk : ∀ v s, K v s → K' v s) (h : makeSliceW P t n c σ K) : makeSliceW P t n c σ K' := by
  unfold makeSliceW at h ⊢
  split at h
  · obtain ⟨h0, h1, e, z, h2, h3, h4, h5, h6, h⟩ := h
    refine ⟨h0, h1, e, z, h2, h3, h4, h5, h6, ?_⟩
    exact h.imp (fun h => ⟨h.1, hk _ _ h.2⟩) fun h => h.imp (fun h => ⟨h.1, hk _ _ h.2⟩) fun h => ⟨h.1, hk _ _ h.2⟩
  · exact h.elim
end Go.Aff

/- One operation: what it does to the abstract state, and that it does so. -/
namespace Go.Aff
set_option linter.unusedVariables false
set_option linter.unusedSimpArgs false

variable {g g' : G} {w w' : World} {σ σ' : AST} {P : Program}

def callW (P : Program) (ρ : Operand → AV) (c : Call) (σ : AST) (K : AV → AST → Prop) : Prop := match c.callee with
  | .builtin .append => match c.args.toList with
    | [s, x] => appendW P c.argTypes (ρ s) (ρ x) σ K
    | _ => False
  | .builtin .len => match c.args.toList with
    | [x] => lenW P c.argTypes (ρ x) fun v => K v σ
    | _ => False
  | .builtin .copy => match c.args.toList with
    | [x, y] => copyW P c.argTypes (ρ x) (ρ y) σ K
    | _ => False
  | .builtin .max => mmW true (c.args.toList.map ρ) fun v => K v σ
  | .builtin .min => mmW false (c.args.toList.map ρ) fun v => K v σ
  | .builtin .delete => match c.args.toList with
    | [x, y] => deleteW P c.argTypes (ρ x) (ρ y) σ (K (.tuple []))
    | _ => False
  | .builtin .clear => match c.args.toList with
    | [x] => clearW P c.argTypes (ρ x) σ (K (.tuple []))
    | _ => False
  | .value f => match ρ f with
    | .fn (.func k) first cap => TCalls P k (first ++ c.args.toList.map ρ ++ cap) σ K
    | .fn (.yield l) [] [] => YCalls P l (c.args.toList.map ρ) σ K
    | _ => False
  | _ => False

def opW (P : Program) (ρ : Operand → AV) (o : Oper) (σ : AST) (K : AV → AST → Prop) : Prop := match o.op with
  | .move x => K (ρ x) σ
  | .assign x => K (ρ x) σ
  | .pick c a b => boolW (ρ c) (K (ρ a) σ) (K (ρ b) σ)
  | .alloc e => ZeroOf P e (zeroA P 12 e) ∧ K (.ptr (some (σ.objs.length, []))) (σ.push (.cells (zeroA P 12 e)))
  | .box e x => (ρ x).known = true ∧ K (.ptr (some (σ.objs.length, []))) (σ.push (.cells (ρ x)))
  | .build t ps => ZeroOf P t (zeroA P 12 t) ∧ (zeroA P 12 t).isAgg = true ∧ Built P t ∧ fillW P t (ps.toList.map fun p => (p.1, ρ p.2)) (zeroA P 12 t) fun v => K v σ
  | .buildSlice t n ps => buildSliceW P t n (ps.toList.map fun p => (p.1, ρ p.2)) fun v => K v σ
  | .load t a => loadW P σ t (ρ a) fun v => K v σ
  | .store t a x => storeW P σ t (ρ a) (ρ x) fun σ' => K .undef σ'
  | .nilCheck x => match ρ x with
    | .ptr (some q) => K (.ptr (some q)) σ
    | .eptr v => K (.eptr v) σ
    | .fn (.func f) a b => K (.fn (.func f) a b) σ
    | _ => False
  | .binOp op t x y _ => binW P op t (ρ x) (ρ y) fun v => K v σ
  | .unOp op _ x => unW op (ρ x) fun v => K v σ
  | .convert s d x => convW P s d (ρ x) σ K
  | .makeInterface t x => (∃ d, P.underlying t = some d ∧ ∀ ms, d ≠ .interface ms) ∧ (ρ x).known = true ∧ K (.iface t (ρ x)) σ
  | .makeFunc f first cap => (∀ x ∈ first.toList ++ cap.toList, (ρ x).known = true) ∧ K (.fn f (first.toList.map ρ) (cap.toList.map ρ)) σ
  | .slice t x lo hi mx => sliceW P t (ρ x) (lo.map ρ) (hi.map ρ) (mx.map ρ) fun v => K v σ
  | .fieldAddr t x i => (∃ fs, P.underlying t = some (.struct fs)) ∧ fieldAddrW P σ t (ρ x) i fun v => K v σ
  | .field t x i => (∃ fs, P.underlying t = some (.struct fs)) ∧ fieldW P t (ρ x) i fun v => K v σ
  | .indexAddr t x i => indexAddrW P σ t (ρ x) (ρ i) fun v => K v σ
  | .index t x i => indexW P t (ρ x) (ρ i) fun v => K v σ
  | .extract x i => match ρ x with
    | .tuple vs => match vs[i]? with
      | some v => K v σ
      | none => False
    | _ => False
  | .lookup t x k ok => lookupW P σ t (ρ x) (ρ k) ok fun v => K v σ
  | .mapUpdate t m k v => mapUpdateW P σ t (ρ m) (ρ k) (ρ v) (K .undef)
  | .mapEntry t m k => mapEntryW P σ t (ρ m) (ρ k) K
  | .entryStore _ m st v => entryStoreW σ (ρ m) (ρ st) (ρ v) (K .undef)
  | .makeMap _ none => K (.mp (some σ.objs.length)) (σ.push (.map [] 0))
  | .makeSlice t n c => makeSliceW P t (ρ n) (ρ c) σ K
  | .call c => callW P ρ c σ K
  | _ => False

/-- The fences that let everything in: of a function's own frame, of a round's. -/
abbrev FR (r : Option Nat) : Fence := { fn := fun _ => True, depth := none, alive := false, round := r }
theorem calls_in {r : Option Nat} {f : FuncId} {xs : Array Value} {R : Ending → World → Prop} {n : Nat} (h : Calls P f xs w R) : CallsIn (FR r) n P f xs w R := by
  have h1 : CallsIn Fence.wide n P f xs w R := callsIn_wide.2 h
  exact h1
theorem round_in {r : Option Nat} {l : Nat} {f : FuncId} {tmps : Array Value} {assign body : Code} {R : Ending → World → Prop} {n : Nat} (h : RoundIn Fence.wide n P l f tmps assign body w R) : RoundIn (FR r) n P l f tmps assign body w R := h

theorem upon_does {r : Option Nat} {o : Oper} {a : Act} {next : Act → World → Prop} {Q : Exit → Act → World → Prop} {s : Sem Value} {K : AV → AST → Prop} (h : Does P g w s K)
    (hn : ∀ g' w' v x σ', Ev g w g' w' → Inv g' σ' w' → relV g' w' v x → K v σ' → next (a.put o.dst x) w') :
    o.uponIn (FR r) 0 P a next Q (((do pure (.value (← s))) : Sem Next).run P w) := by
  obtain ⟨x, w', g', v, σ', hrun, hE, hI, hr, hK⟩ := h
  simp only [Sem.run_bind, hrun, Result.andThen_ok, Sem.run_pure]
  exact hn g' w' v x σ' hE hI hr hK

theorem mem_rel {ρ : Operand → AV} {r : Operand → Value} (hρ : ∀ x, relV g w (ρ x) (r x)) : ∀ {l : List Operand}, (∀ x ∈ l, (ρ x).known = true) → relVs g w (l.map ρ) (l.map r)
  | [], _ => by simp [relVs]
  | x :: l, h => by
    simp only [List.map_cons, relVs]
    obtain ⟨h1, h2⟩ := relV_known (hρ x) (h x (by simp))
    exact ⟨_, _, rfl, h1, h2, mem_rel hρ fun y hy => h y (by simp [hy])⟩

theorem relA_args {ρ : Operand → AV} {r : Operand → Value} (hρ : ∀ x, relV g w (ρ x) (r x)) (l : List Operand) : relA g w (l.map ρ) (l.map r) := by
  refine ⟨by simp, fun i v x hv hx => ?_⟩
  simp only [List.getElem?_map, Option.map_eq_some_iff] at hv hx
  obtain ⟨p, hp, rfl⟩ := hv
  obtain ⟨q, hq, rfl⟩ := hx
  rw [hp] at hq; cases hq
  exact hρ p

theorem relA_of_relVs : ∀ {vs : List AV} {l : List Value}, relVs g w vs l → relA g w vs l
  | [], l, h => by simp only [relVs] at h; subst h; exact ⟨rfl, fun i v x h => by simp at h⟩
  | v :: vs, l, h => by
    simp only [relVs] at h
    obtain ⟨x, r, rfl, h1, h2, h3⟩ := h
    obtain ⟨h4, h5⟩ := relA_of_relVs h3
    refine ⟨by simp [h4], fun i u y hu hy => ?_⟩
    cases i with
    | zero => simp at hu hy; subst hu hy; exact relV_of h1 h2
    | succ i => simp at hu hy; exact h5 i u y hu hy

theorem relA_append {a b : List AV} {x y : List Value} (h1 : relA g w a x) (h2 : relA g w b y) : relA g w (a ++ b) (x ++ y) := by
  refine ⟨by simp [h1.1, h2.1], fun i v z hv hz => ?_⟩
  rw [List.getElem?_append] at hv hz
  rw [← h1.1] at hz
  split at hv
  · rename_i hlt; rw [if_pos hlt] at hz; exact h1.2 i v z hv hz
  · rename_i hlt; rw [if_neg hlt] at hz; exact h2.2 _ v z hv hz

theorem callFunc_run {k : FuncId} (h : FnOk P k) (args : Array Value) (w : World) : (callFunc k args).run P w = .ok (.enter k args) w := by
  obtain ⟨fn, h1, h2, h3⟩ := h
  simp only [callFunc, Sem.run_bind, run_program, Result.andThen_ok, h1, h2, h3, Bool.false_eq_true, if_false, Sem.run_pure]

theorem two_args {ρ : Operand → AV} {l : Array Operand} {a b : AV} (h : l.toList.map ρ = [a, b]) : ∃ x y, l = #[x, y] ∧ ρ x = a ∧ ρ y = b := by
  have hl : l.toList.length = 2 := by have := congrArg List.length h; simpa using this
  obtain ⟨x, y, hxy⟩ : ∃ x y, l.toList = [x, y] := by
    generalize l.toList = q at hl
    rcases q with _ | ⟨x, _ | ⟨y, _ | ⟨z, q⟩⟩⟩ <;> simp at hl
    exact ⟨x, y, rfl⟩
  rw [hxy] at h
  simp only [List.map_cons, List.map_nil, List.cons.injEq, and_true] at h
  exact ⟨x, y, by apply Array.ext'; rw [hxy], h.1, h.2⟩

theorem op_sound {r : Option Nat} {o : Oper} {a : Act} {next : Act → World → Prop} {Q : Exit → Act → World → Prop} {ρ : Operand → AV} {K : AV → AST → Prop} (hI : Inv g σ w) (hρ : ∀ x, relV g w (ρ x) (a.eval x))
    (h : opW P ρ o σ K) (hn : ∀ g' w' v x σ', Ev g w g' w' → Inv g' σ' w' → relV g' w' v x → K v σ' → next (a.put o.dst x) w') :
    o.uponIn (FR r) 0 P a next Q ((execOp a.eval o).run P w) := by
  unfold opW at h
  unfold execOp
  split at h <;> first | exact h.elim | (rename_i heq; rw [heq]; simp only)
  · rename_i x
    exact hn g w _ _ σ (Ev.refl _ _) hI (hρ x) h
  · rename_i x
    exact hn g w _ _ σ (Ev.refl _ _) hI (hρ x) h
  · rename_i c x y
    unfold boolW at h
    split at h
    · rename_i b hb
      have hc := hρ c
      rw [hb] at hc
      have hv := relV_bool hc
      simp only [Sem.run_bind, hv, asBool, Sem.run_pure, Result.andThen_ok]
      cases b
      · exact hn g w _ _ σ (Ev.refl _ _) hI (hρ y) (h.2 rfl)
      · exact hn g w _ _ σ (Ev.refl _ _) hI (hρ x) (h.1 rfl)
    · exact h.elim
  · rename_i e
    exact upon_does (alloc_does hI h.1 h.2) hn
  · rename_i e x
    exact upon_does (box_does hI (hρ x) h.1 h.2) hn
  · rename_i t ps
    obtain ⟨h1, h2, h3, h4⟩ := h
    have hd := build_does (P := P) (K := K) (xs := ps.toList.map fun p => (p.1, a.eval p.2)) hI h1 h3 (by simp) (fun j p x hp hx => by
      simp only [List.getElem?_map, Option.map_eq_some_iff] at hp hx
      obtain ⟨q, hq, rfl⟩ := hp
      obtain ⟨q', hq', rfl⟩ := hx
      rw [hq] at hq'; cases hq'
      exact hρ _) h4 h2
    have e : (ps.map fun p => (p.1, a.eval p.2)) = (ps.toList.map fun p => (p.1, a.eval p.2)).toArray := by apply Array.ext'; simp
    have := upon_does (r := r) (o := o) (Q := Q) hd hn
    rw [← e] at this
    exact this
  · rename_i t n ps
    have hd := buildSlice_does (P := P) (K := K) (xs := ps.toList.map fun p => (p.1, a.eval p.2)) hI (by simp) (fun j p x hp hx => by
      simp only [List.getElem?_map, Option.map_eq_some_iff] at hp hx
      obtain ⟨q, hq, rfl⟩ := hp
      obtain ⟨q', hq', rfl⟩ := hx
      rw [hq] at hq'; cases hq'
      exact hρ _) h
    have e : (ps.map fun p => (p.1, a.eval p.2)) = (ps.toList.map fun p => (p.1, a.eval p.2)).toArray := by apply Array.ext'; simp
    have := upon_does (r := r) (o := o) (Q := Q) hd hn
    rw [← e] at this
    exact this
  · rename_i t x
    exact upon_does (load_does hI (hρ x) h) hn
  · rename_i t x y
    obtain ⟨w', g', σ', hrun, hE, hI', hK⟩ := store_does hI (hρ x) (hρ y) h
    simp only [Sem.run_bind, hrun, Result.andThen_ok, Sem.run_pure]
    exact hn g' w' .undef _ σ' hE hI' (.inl rfl) hK
  · rename_i x
    split at h
    · rename_i q hq
      have hx := hρ x
      rw [hq] at hx
      obtain ⟨i, p⟩ := q
      obtain ⟨b, sh, off, h1, h2, h3⟩ := relV_ptr hx
      rw [h3]
      rw [h3] at hx
      exact hn g w _ _ σ (Ev.refl _ _) hI hx h
    · rename_i v hq
      have hx := hρ x
      rw [hq] at hx
      obtain ⟨b, off, cv, h1, h2⟩ := relV_eptr hx
      rw [h1]
      rw [h1] at hx
      exact hn g w _ _ σ (Ev.refl _ _) hI hx h
    · rename_i f a' b' hq
      have hx := hρ x
      rw [hq] at hx
      have h0 := (relV_scalar hx rfl rfl).1
      simp only [relC, List.cons.injEq, and_true] at h0
      obtain ⟨p, q, h1, h2, h3⟩ := h0
      rw [h1]
      rw [h1] at hx
      exact hn g w _ _ σ (Ev.refl _ _) hI hx h
    · exact h.elim
  · rename_i op t x y yt
    exact upon_does (bin_does hI (hρ x) (hρ y) h) hn
  · rename_i op t x
    exact upon_does (un_does hI (hρ x) h) hn
  · rename_i s d x
    exact upon_does (conv_does hI (hρ x) h) hn
  · rename_i t x
    obtain ⟨⟨d, hd, hni⟩, hk, hK⟩ := h
    obtain ⟨h1, h2⟩ := relV_known (hρ x) hk
    have hrun : (Instr.makeInterface t (a.eval x)).run P w = .ok (.iface t (a.eval x)) w := by
      simp only [Instr.makeInterface, Sem.run_bind, run_underlying hd, Result.andThen_ok]
      cases d <;> first | (exact absurd rfl (hni _)) | rfl
    exact upon_does (K := K) (Does.pure hI hrun (relV_of (by simp only [relC, Value.cells]; exact ⟨_, rfl, h1, h2⟩) rfl) hK) hn
  · rename_i f first cap
    obtain ⟨hk, hK⟩ := h
    have hrun : (Instr.makeFunc f (first.map a.eval) (cap.map a.eval)).run P w = .ok (.func f (first.map a.eval) (cap.map a.eval)) w := rfl
    have r1 := mem_rel hρ (l := first.toList) fun x hx => hk x (by simp at hx ⊢; exact .inl hx)
    have r2 := mem_rel hρ (l := cap.toList) fun x hx => hk x (by simp at hx ⊢; exact .inr hx)
    exact upon_does (K := K) (Does.pure hI hrun (relV_of (by simp only [relC, Value.cells]; exact ⟨_, _, rfl, by simpa using r1, by simpa using r2⟩) rfl) hK) hn
  · rename_i t x lo hi mx
    have opt : ∀ (o : Option Operand), relO g w (o.map ρ) (o.map a.eval) := by
      intro o
      cases o with
      | none => exact .inl ⟨rfl, rfl⟩
      | some x => exact .inr ⟨_, _, rfl, rfl, hρ x⟩
    exact upon_does (slice_does hI (hρ x) (opt lo) (opt hi) (opt mx) h) hn
  · rename_i t x i
    exact upon_does (fieldAddr_does hI (hρ x) h.1 h.2) hn
  · rename_i t x i
    exact upon_does (field_does hI (hρ x) h.1 h.2) hn
  · rename_i t x i
    exact upon_does (indexAddr_does hI (hρ x) (hρ i) h) hn
  · rename_i t x i
    exact upon_does (index_does hI (hρ x) (hρ i) h) hn
  · rename_i x i
    split at h
    · rename_i vs hq
      split at h
      · rename_i v hv
        have hx := hρ x
        rw [hq] at hx
        exact upon_does (extract_does hI hx hv h) hn
      · exact h.elim
    · exact h.elim
  · rename_i t x k ok
    exact upon_does (lookup_does hI (hρ x) (hρ k) h) hn
  · rename_i t m k v
    obtain ⟨w', g', σ', hrun, hE, hI', hK⟩ := mapUpdate_does hI (hρ m) (hρ k) (hρ v) h
    simp only [Sem.run_bind, hrun, Result.andThen_ok, Sem.run_pure]
    exact hn g' w' .undef _ σ' hE hI' (.inl rfl) hK
  · rename_i t m k
    exact upon_does (mapEntry_does hI (hρ m) (hρ k) h) hn
  · rename_i t m st v
    obtain ⟨w', g', σ', hrun, hE, hI', hK⟩ := entryStore_does (t := t) hI (hρ m) (hρ st) (hρ v) h
    rw [Sem.run_bind, hrun]
    simp only [Result.andThen_ok, Sem.run_pure]
    exact hn g' w' .undef _ σ' hE hI' (.inl rfl) hK
  · rename_i t
    exact upon_does (K := K) (makeMap_does (t := t) hI h) hn
  · rename_i t n c
    exact upon_does (makeSlice_does hI (hρ n) (hρ c) h) hn
  · rename_i c
    unfold callW at h
    split at h
    · rename_i hcal
      split at h
      · rename_i s x hargs
        have hm : c.args.map a.eval = #[a.eval s, a.eval x] := by
          have : (c.args.map a.eval).toList = [a.eval s, a.eval x] := by simp [hargs]
          apply Array.ext'; simpa using this
        have hd := append_does (ty := o.type) hI (hρ s) (hρ x) h
        have := upon_does (r := r) (o := o) (Q := Q) hd hn
        simpa [resolve, hcal, invoke, builtin, hm] using this
      · exact h.elim
    · rename_i hcal
      split at h
      · rename_i x hargs
        have hm : c.args.map a.eval = #[a.eval x] := by
          have : (c.args.map a.eval).toList = [a.eval x] := by simp [hargs]
          apply Array.ext'; simpa using this
        obtain ⟨t, ht, h⟩ := h
        have hd : Does P g w (Builtin.len_ c.argTypes o.type #[a.eval x]) K := by
          have hx := hρ x
          split at h
          · rename_i s hs
            rw [hs] at hx
            obtain ⟨h1, h2⟩ := relV_str hx
            rw [h1]
            exact Does.pure hI (v := .int .i64 s.length) (x := .int .i64 s.length) (by simp [Builtin.len_, ht, run_underlying h.1, goInt, bytes_size]) (relV_mkInt _ _) (h.2 h2)
          · rename_i tk xs hs
            rw [hs] at hx
            obtain ⟨ad, aa, cc, es, css, h1, _, h2, h3, h4, _⟩ := relV_slice hx
            obtain ⟨⟨e, he⟩, hK⟩ := h
            rw [h1]
            exact Does.pure hI (v := .int .i64 xs.length) (x := .int .i64 xs.length) (by simp [Builtin.len_, ht, run_underlying he, goInt]) (relV_mkInt _ _) (hK (by omega))
          · rename_i i p n hs
            rw [hs] at hx
            have hsc := (relV_scalar hx rfl rfl).1
            simp only [relC, List.cons.injEq, and_true] at hsc
            obtain ⟨b, sh, oo, cc, _, _, h1, h3, h4⟩ := hsc
            obtain ⟨⟨e, he⟩, hK⟩ := h
            rw [h1]
            exact Does.pure hI (v := .int .i64 n) (x := .int .i64 n) (by simp [Builtin.len_, ht, run_underlying he, goInt]) (relV_mkInt _ _) (hK (by omega))
          · exact h.elim
        have := upon_does (r := r) (o := o) (Q := Q) hd hn
        simpa [resolve, hcal, invoke, builtin, hm] using this
      · exact h.elim
    · rename_i hcal
      split at h
      · rename_i x y hargs
        have hm : c.args.map a.eval = #[a.eval x, a.eval y] := by
          have : (c.args.map a.eval).toList = [a.eval x, a.eval y] := by simp [hargs]
          apply Array.ext'; simpa using this
        have hd := copy_does (ty := o.type) hI (hρ x) (hρ y) h
        have := upon_does (r := r) (o := o) (Q := Q) hd hn
        simpa [resolve, hcal, invoke, builtin, hm] using this
      · exact h.elim
    · rename_i hcal
      unfold mmW at h
      split at h
      · rename_i k p k' q hargs
        obtain ⟨rfl, hK⟩ := h
        have hm : ∃ x y, c.args = #[x, y] ∧ ρ x = .int k p ∧ ρ y = .int k q := by
          exact two_args hargs
        obtain ⟨x, y, hc, hx, hy⟩ := hm
        have h1 := relV_int (hx ▸ hρ x)
        have h2 := relV_int (hy ▸ hρ y)
        have hd : Does P g w (Builtin.max_ c.argTypes o.type #[.int k p, .int k q]) K := by
          refine Does.pure hI (v := .int k (max p q)) (x := .int k (max p q)) ?_ (relV_mkInt _ _) (by simpa using hK)
          rw [run_max_int2]
          congr 2
          by_cases hlt : q > p
          · rw [if_pos hlt]; omega
          · rw [if_neg hlt]; omega
        have := upon_does (r := r) (o := o) (Q := Q) hd hn
        simpa [resolve, hcal, invoke, builtin, hc, h1, h2] using this
      · exact h.elim
    · rename_i hcal
      unfold mmW at h
      split at h
      · rename_i k p k' q hargs
        obtain ⟨rfl, hK⟩ := h
        have hm : ∃ x y, c.args = #[x, y] ∧ ρ x = .int k p ∧ ρ y = .int k q := by
          exact two_args hargs
        obtain ⟨x, y, hc, hx, hy⟩ := hm
        have h1 := relV_int (hx ▸ hρ x)
        have h2 := relV_int (hy ▸ hρ y)
        have hd : Does P g w (Builtin.min_ c.argTypes o.type #[.int k p, .int k q]) K := by
          refine Does.pure hI (v := .int k (min p q)) (x := .int k (min p q)) ?_ (relV_mkInt _ _) (by simpa using hK)
          rw [run_min_int2]
          congr 2
          by_cases hlt : q < p
          · rw [if_pos hlt]; omega
          · rw [if_neg hlt]; omega
        have := upon_does (r := r) (o := o) (Q := Q) hd hn
        simpa [resolve, hcal, invoke, builtin, hc, h1, h2] using this
      · exact h.elim
    · rename_i hcal
      split at h
      · rename_i x y hargs
        have hm : c.args.map a.eval = #[a.eval x, a.eval y] := by
          have : (c.args.map a.eval).toList = [a.eval x, a.eval y] := by simp [hargs]
          apply Array.ext'; simpa using this
        have hd := delete_does (ty := o.type) hI (hρ x) (hρ y) h
        have := upon_does (r := r) (o := o) (Q := Q) hd hn
        simpa [resolve, hcal, invoke, builtin, hm] using this
      · exact h.elim
    · rename_i hcal
      split at h
      · rename_i x hargs
        have hm : c.args.map a.eval = #[a.eval x] := by
          have : (c.args.map a.eval).toList = [a.eval x] := by simp [hargs]
          apply Array.ext'; simpa using this
        have hd := clear_does (ty := o.type) hI (hρ x) h
        have := upon_does (r := r) (o := o) (Q := Q) hd hn
        simpa [resolve, hcal, invoke, builtin, hm] using this
      · exact h.elim
    · rename_i f hcal
      split at h
      · rename_i k first cap hf
        have hx := hρ f
        rw [hf] at hx
        have h0 := (relV_scalar hx rfl rfl).1
        simp only [relC, List.cons.injEq, and_true] at h0
        obtain ⟨p, q, h1, h2, h3⟩ := h0
        have hrun : ((do let d ← resolve a.eval c o.type; invoke d.target d.args) : Sem Next).run P w = .ok (.enter k (p ++ c.args.map a.eval ++ q)) w := by
          simp [resolve, hcal, h1, Deferred.ofValue, invoke, callFunc_run h.1]
        rw [hrun, Oper.uponIn_enter]
        refine ⟨fun h => by simp at h, calls_in ?_⟩
        have hA : relA g w (first ++ c.args.toList.map ρ ++ cap) (p ++ c.args.map a.eval ++ q).toList := by
          simp only [Array.toList_append, Array.toList_map]
          exact relA_append (relA_append (relA_of_relVs h2) (relA_args hρ _)) (relA_of_relVs h3)
        refine (h.2 g w _ hI hA).mono ?_
        rintro e w' ⟨x, g', v, σ', rfl, hE, hI', hr, hK⟩
        exact hn g' w' v x σ' hE hI' hr hK
      · rename_i l hf
        have hx := hρ f
        rw [hf] at hx
        have h0 := (relV_scalar hx rfl rfl).1
        simp only [relC, List.cons.injEq, and_true] at h0
        obtain ⟨p, q, h1, h2, h3⟩ := h0
        simp only [relVs] at h2 h3
        obtain rfl : p = #[] := by cases p; simp_all
        obtain rfl : q = #[] := by cases q; simp_all
        obtain ⟨fn, tmps, assign, body, hy, hR⟩ := h g w (c.args.map a.eval) hI (by simp only [Array.toList_map]; exact relA_args hρ _)
        have hrun : ((do let d ← resolve a.eval c o.type; invoke d.target d.args) : Sem Next).run P w = .ok (.round l fn tmps assign body) w := by
          simp [resolve, hcal, h1, Deferred.ofValue, invoke, hy]
        rw [hrun, Oper.uponIn_round]
        refine ⟨fun h => by simp at h, round_in (hR.mono ?_)⟩
        rintro e w' ⟨x, g', v, σ', rfl, hE, hI', hr, hK⟩
        exact hn g' w' v x σ' hE hI' hr hK
      · exact h.elim
    · exact h.elim

theorem semAt_sound {r : Option Nat} {o : Oper} {ρ : Operand → AV} {K : AV → AST → Prop} (h : opW P ρ o σ K) (f : Operand → Value) : o.semAt r f = execOp f o := by
  refine Oper.semAt_eq r f o fun c hc => ?_
  unfold opW at h
  rw [hc] at h
  exact h

end Go.Aff

