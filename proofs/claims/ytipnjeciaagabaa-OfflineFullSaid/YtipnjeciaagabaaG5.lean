import Derived.Test.YtipnjeciaagabaaG4
import Derived.Lib.ConvBytes

set_option linter.unusedSimpArgs false
set_option linter.unusedVariables false

/- What operations do, soundly (6): comparisons. -/
namespace Go.Aff
set_option linter.unusedVariables false
set_option linter.unusedSimpArgs false

variable {g g' : G} {w w' : World} {σ σ' : AST} {P : Program}

theorem run_eq_bytes {t e : TypeId} (hu : P.underlying t = some (.array 32 e)) (he : P.underlying e = some (.int .u8)) (hc : P.cellsOf e = 1) (a b : List UInt8) (ha : a.length = 32) (hb : b.length = 32) (d : Nat) (w : World) :
    (Op.equalIn (d + 2) t (.agg (a.map fun b => Value.int .u8 b.toNat).toArray) (.agg (b.map fun b => Value.int .u8 b.toNat).toArray)).run P w = .ok (a == b) w := by
  have hag : aggT P e = some false := by simp [aggT, he]
  have hpart : ∀ (l : List UInt8) (i : Nat) (x : UInt8), l[i]? = some x → (part e (l.map fun b => Value.int .u8 b.toNat).toArray i).run P w = .ok (.int .u8 x.toNat) w := by
    intro l i x hx
    simp [part, run_isAgg' hag, hx]
  rw [Op.equalIn]
  simp only [Sem.run_bind, run_underlying hu, Result.andThen_ok, run_sizeOf' he, hc, Nat.mul_one]
  rw [Std.Legacy.Range.forIn_eq_forIn_range']
  have key : ∀ (n k : Nat), k + n = 32 →
      (forIn (List.range' k n 1) ((none : Option Bool), ()) fun i _ => do
        let x ← part e (a.map fun b => Value.int .u8 b.toNat).toArray i
        let y ← part e (b.map fun b => Value.int .u8 b.toNat).toArray i
        let r ← Op.equalIn (d + 1) e x y
        if (!r) = true then pure (ForInStep.done (some false, ())) else pure (ForInStep.yield (none, ())) : Sem (Option Bool × Unit)).run P w =
      .ok (if a.drop k == b.drop k then (none, ()) else (some false, ())) w := by
    intro n
    induction n with
    | zero =>
      intro k hk
      have h1 : a.drop k = [] := List.drop_of_length_le (by omega)
      have h2 : b.drop k = [] := List.drop_of_length_le (by omega)
      simp [h1, h2]
    | succ n ih =>
      intro k hk
      have hka : k < a.length := by omega
      have hkb : k < b.length := by omega
      have e1 : a.drop k = a[k] :: a.drop (k + 1) := List.drop_eq_getElem_cons hka
      have e2 : b.drop k = b[k] :: b.drop (k + 1) := List.drop_eq_getElem_cons hkb
      have hq : (Op.equalIn (d + 1) e (.int .u8 a[k].toNat) (.int .u8 b[k].toNat)).run P w = .ok (a[k] == b[k]) w := by
        rw [run_equalIn_int w d e .u8 .u8 _ _ he]
        congr 1
        rw [Bool.eq_iff_iff]
        simp only [beq_iff_eq]
        constructor
        · intro h; exact UInt8.toNat_inj.1 (by omega)
        · intro h; rw [h]
      simp only [List.range'_succ, List.forIn_cons, Sem.run_bind, hpart a k _ (List.getElem?_eq_getElem hka), hpart b k _ (List.getElem?_eq_getElem hkb), hq, Result.andThen_ok, Sem.run_ite, e1, e2]
      by_cases h : a[k] = b[k]
      · have := ih (k + 1) (by omega)
        simp only [h, beq_self_eq_true, Bool.not_true, Bool.false_eq_true, if_false, Sem.run_pure, Result.andThen_ok, List.cons_beq_cons, Bool.true_and]
        exact this
      · have h' : (a[k] == b[k]) = false := by simpa using h
        simp [h', h]
        intro hh
        rw [e1, e2] at hh
        simp only [List.cons.injEq] at hh
        exact h hh.1
  have := key 32 0 rfl
  simp only [List.drop_zero] at this
  have hr : ([:32] : Std.Legacy.Range).start = 0 ∧ ([:32] : Std.Legacy.Range).size = 32 ∧ ([:32] : Std.Legacy.Range).step = 1 := ⟨rfl, by simp [Std.Legacy.Range.size], rfl⟩
  rw [hr.1, hr.2.1, hr.2.2, this]
  simp only [Result.andThen_ok]
  by_cases h : a = b
  · subst h; simp
  · have h' : (a == b) = false := by simpa using h
    simp [h']

theorem run_eq_ints {t e : TypeId} {N : Nat} (hu : P.underlying t = some (.array N e)) (he : P.underlying e = some (.int .i64)) (hc : P.cellsOf e = 1) (a b : List Int) (ha : a.length = N) (hb : b.length = N) (d : Nat) (w : World) :
    (Op.equalIn (d + 2) t (.agg (a.map fun b => Value.int .i64 b).toArray) (.agg (b.map fun b => Value.int .i64 b).toArray)).run P w = .ok (a == b) w := by
  have hag : aggT P e = some false := by simp [aggT, he]
  have hpart : ∀ (l : List Int) (i : Nat) (x : Int), l[i]? = some x → (part e (l.map fun b => Value.int .i64 b).toArray i).run P w = .ok (.int .i64 x) w := by
    intro l i x hx
    simp [part, run_isAgg' hag, hx]
  rw [Op.equalIn]
  simp only [Sem.run_bind, run_underlying hu, Result.andThen_ok, run_sizeOf' he, hc, Nat.mul_one]
  rw [Std.Legacy.Range.forIn_eq_forIn_range']
  have key : ∀ (n k : Nat), k + n = N →
      (forIn (List.range' k n 1) ((none : Option Bool), ()) fun i _ => do
        let x ← part e (a.map fun b => Value.int .i64 b).toArray i
        let y ← part e (b.map fun b => Value.int .i64 b).toArray i
        let r ← Op.equalIn (d + 1) e x y
        if (!r) = true then pure (ForInStep.done (some false, ())) else pure (ForInStep.yield (none, ())) : Sem (Option Bool × Unit)).run P w =
      .ok (if a.drop k == b.drop k then (none, ()) else (some false, ())) w := by
    intro n
    induction n with
    | zero =>
      intro k hk
      have h1 : a.drop k = [] := List.drop_of_length_le (by omega)
      have h2 : b.drop k = [] := List.drop_of_length_le (by omega)
      simp [h1, h2]
    | succ n ih =>
      intro k hk
      have hka : k < a.length := by omega
      have hkb : k < b.length := by omega
      have e1 : a.drop k = a[k] :: a.drop (k + 1) := List.drop_eq_getElem_cons hka
      have e2 : b.drop k = b[k] :: b.drop (k + 1) := List.drop_eq_getElem_cons hkb
      have hq : (Op.equalIn (d + 1) e (.int .i64 a[k]) (.int .i64 b[k])).run P w = .ok (a[k] == b[k]) w := by
        exact run_equalIn_int w d e .i64 .i64 _ _ he
      simp only [List.range'_succ, List.forIn_cons, Sem.run_bind, hpart a k _ (List.getElem?_eq_getElem hka), hpart b k _ (List.getElem?_eq_getElem hkb), hq, Result.andThen_ok, Sem.run_ite, e1, e2]
      by_cases h : a[k] = b[k]
      · have := ih (k + 1) (by omega)
        simp only [h, beq_self_eq_true, Bool.not_true, Bool.false_eq_true, if_false, Sem.run_pure, Result.andThen_ok, List.cons_beq_cons, Bool.true_and]
        exact this
      · have h' : (a[k] == b[k]) = false := by simpa using h
        simp [h', h]
        intro hh
        rw [e1, e2] at hh
        simp only [List.cons.injEq] at hh
        exact h hh.1
  have := key N 0 (by omega)
  simp only [List.drop_zero] at this
  have hr : ([:N] : Std.Legacy.Range).start = 0 ∧ ([:N] : Std.Legacy.Range).size = N ∧ ([:N] : Std.Legacy.Range).step = 1 := ⟨rfl, by simp [Std.Legacy.Range.size], rfl⟩
  rw [hr.1, hr.2.1, hr.2.2, this]
  simp only [Result.andThen_ok]
  by_cases h : a = b
  · subst h; simp
  · have h' : (a == b) = false := by simpa using h
    simp [h']

theorem isU8_of {e : TypeId} (h : isU8 P e = true) : P.underlying e = some (.int .u8) := by
  unfold isU8 at h
  split at h
  · assumption
  · cases h

def isV (g : G) (w : World) (v : AV) (x : Value) : Prop := relC g w v x.cells.toList ∧ v.isAgg = vAgg x

theorem isV_of {v : AV} {x : Value} (h : relV g w v x) (hk : v.known = true) : isV g w v x := relV_known h hk

theorem bytes_beq (a b : List UInt8) : ((⟨a.toArray⟩ : ByteArray) == ⟨b.toArray⟩) = (a == b) := by
  rw [beq_toListBytes, bytes_toList, bytes_toList]

theorem isI64_of {e : TypeId} (h : isI64 P e = true) : P.underlying e = some (.int .i64) := by
  unfold isI64 at h
  split at h
  · assumption
  · cases h
theorem i64s_rel : ∀ {xs : List AV} {a : List Int} {cs : List Value}, i64s xs = some a → relPs g w xs cs → cs = a.map (fun b => Value.int .i64 b) ∧ a.length = xs.length
  | [], a, cs, h, hr => by simp [i64s] at h; subst h; simp only [relPs] at hr; subst hr; exact ⟨rfl, rfl⟩
  | x :: xs, a, cs, h, hr => by
    unfold i64s at h
    split at h
    · rename_i h0; cases h0
    · rename_i n r h0
      cases h0
      simp only [Option.map_eq_some_iff] at h
      obtain ⟨b, hb, rfl⟩ := h
      simp only [relPs] at hr
      obtain ⟨c1, c2, rfl, h1, h2⟩ := hr
      obtain ⟨rfl, hl⟩ := i64s_rel hb h2
      simp only [relC] at h1
      subst h1
      exact ⟨rfl, by simp [hl]⟩
    · cases h

mutual
theorem eqA_sound : ∀ (n : Nat) {t : TypeId} {x y : AV} {b : Bool} {X Y : Value}, eqA P n t x y = some b → isV g w x X → isV g w y Y → ∀ d, n ≤ d → ∀ W, (Op.equalIn d t X Y).run P W = .ok b W
  | 0, t, x, y, b, X, Y, h, hx, hy, d, hd, W => by simp [eqA] at h
  | n + 1, t, x, y, b, X, Y, h, hx, hy, d, hd, W => by
    obtain ⟨d, rfl⟩ : ∃ k, d = k + 1 := ⟨d - 1, by omega⟩
    simp only [eqA] at h
    have sc : ∀ {v : AV} {V : Value}, isV g w v V → v.isAgg = false → relC g w v [V] := by
      intro v V hv ha
      have := hv.2; rw [ha] at this
      have h0 := hv.1
      rw [cells_one this.symm] at h0; exact h0
    split at h
    · rename_i a b' hu
      simp only [Option.some.injEq] at h; subst h
      have h1 := sc hx rfl; have h2 := sc hy rfl
      simp only [relC, List.cons.injEq, and_true] at h1 h2; subst h1 h2
      exact run_equalIn_bool W d t a b' hu
    · rename_i kk k a k' b' hu
      split at h
      · rename_i hk; subst hk
        simp only [Option.some.injEq] at h; subst h
        have h1 := sc hx rfl; have h2 := sc hy rfl
        simp only [relC, List.cons.injEq, and_true] at h1 h2; subst h1 h2
        exact run_equalIn_int W d t k kk a b' hu
      · cases h
    · rename_i a b' hu
      simp only [Option.some.injEq] at h; subst h
      have h1 := sc hx rfl; have h2 := sc hy rfl
      simp only [relC, List.cons.injEq, and_true] at h1 h2
      obtain ⟨rfl, _⟩ := h1; obtain ⟨rfl, _⟩ := h2
      simp [Op.equalIn, run_underlying hu, bytes_beq]
    · rename_i e a b' hu
      split at h
      · rename_i he
        simp only [Option.some.injEq] at h; subst h
        obtain ⟨h1, h1'⟩ := hx; obtain ⟨h2, h2'⟩ := hy
        obtain ⟨cx, rfl⟩ := cells_agg h1'.symm
        obtain ⟨cy, rfl⟩ := cells_agg h2'.symm
        simp only [relC, Value.cells] at h1 h2
        obtain ⟨d, rfl⟩ : ∃ k, d = k + 1 := ⟨d - 1, by omega⟩
        have e1 : cx = (a.l.map fun b => Value.int .u8 b.toNat).toArray := by rw [← h1]
        have e2 : cy = (b'.l.map fun b => Value.int .u8 b.toNat).toArray := by rw [← h2]
        rw [e1, e2]
        exact run_eq_bytes hu (isU8_of he.1) he.2.1 a.l b'.l a.h b'.h d W
      · cases h
    · rename_i N e xs ys hu
      split at h
      · rename_i he
        obtain ⟨he1, he2, he3, he4, he5⟩ := he
        unfold eqI at h
        split at h
        · rename_i a b' ha hb
          simp only [Option.some.injEq] at h; subst h
          obtain ⟨h1, h1'⟩ := hx; obtain ⟨h2, h2'⟩ := hy
          obtain ⟨cx, rfl⟩ := cells_agg h1'.symm
          obtain ⟨cy, rfl⟩ := cells_agg h2'.symm
          simp only [relC, Value.cells] at h1 h2
          obtain ⟨d, rfl⟩ : ∃ k, d = k + 1 := ⟨d - 1, by omega⟩
          obtain ⟨k1, k2⟩ := i64s_rel ha h1
          obtain ⟨k3, k4⟩ := i64s_rel hb h2
          have e1 : cx = (a.map fun b => Value.int .i64 b).toArray := by rw [← k1]
          have e2 : cy = (b'.map fun b => Value.int .i64 b).toArray := by rw [← k3]
          rw [e1, e2]
          exact run_eq_ints hu (isI64_of he1) he2 a b' (by omega) (by omega) d W
        · cases h
      · cases h
    · rename_i fs xs ys hu
      split at h
      · rename_i hst
        obtain ⟨h1, h1'⟩ := hx; obtain ⟨h2, h2'⟩ := hy
        obtain ⟨cx, rfl⟩ := cells_agg h1'.symm
        obtain ⟨cy, rfl⟩ := cells_agg h2'.symm
        simp only [relC, Value.cells] at h1 h2
        have hf : P.fieldsOf t = fs := by simp [Program.fieldsOf, hu]
        rw [run_equalIn_struct W d t cx cy (by rw [hf]; exact hu) hst, hf]
        exact eqAs_sound n h h1 h2 (by simp) (by simp) d (by omega) W
      · cases h
    · rename_i q b' hu
      simp only [Option.some.injEq] at h; subst h
      have h1 := sc hx rfl; have h2 := sc hy rfl
      simp only [relC, List.cons.injEq, and_true] at h1; subst h1
      cases b' with
      | none => simp only [relC, List.cons.injEq, and_true] at h2; subst h2; simp [Op.equalIn, run_underlying hu]
      | some z => obtain ⟨i, p⟩ := z; simp only [relC, List.cons.injEq, and_true] at h2; obtain ⟨_, _, _, _, _, rfl⟩ := h2; simp [Op.equalIn, run_underlying hu]
    · rename_i q a hne hu
      simp only [Option.some.injEq] at h; subst h
      have h1 := sc hx rfl; have h2 := sc hy rfl
      simp only [relC, List.cons.injEq, and_true] at h2; subst h2
      cases a with
      | none => simp only [relC, List.cons.injEq, and_true] at h1; subst h1; simp [Op.equalIn, run_underlying hu]
      | some z => obtain ⟨i, p⟩ := z; simp only [relC, List.cons.injEq, and_true] at h1; obtain ⟨_, _, _, _, _, rfl⟩ := h1; simp [Op.equalIn, run_underlying hu]
    · cases h
theorem eqAs_sound : ∀ (n : Nat) {t : TypeId} {i : Nat} {fs : List Field} {xs ys ax ay : List AV} {b : Bool} {cx cy : Array Value}, eqAs P n t i fs xs ys ax ay = some b →
    relPs g w ax cx.toList → relPs g w ay cy.toList → xs = ax.drop i → ys = ay.drop i → ∀ d, n ≤ d → ∀ W, (Op.eqFields d cx cy fs).run P W = .ok b W
  | 0, t, i, fs, xs, ys, ax, ay, b, cx, cy, h, hx, hy, ex, ey, d, hd, W => by simp [eqAs] at h
  | n + 1, t, i, [], xs, ys, ax, ay, b, cx, cy, h, hx, hy, ex, ey, d, hd, W => by simp [eqAs] at h; subst h; simp [Op.eqFields]
  | n + 1, t, i, f :: fs, [], ys, ax, ay, b, cx, cy, h, hx, hy, ex, ey, d, hd, W => by simp [eqAs] at h
  | n + 1, t, i, f :: fs, x :: xs, [], ax, ay, b, cx, cy, h, hx, hy, ex, ey, d, hd, W => by simp [eqAs] at h
  | n + 1, t, i, f :: fs, x :: xs, y :: ys, ax, ay, b, cx, cy, h, hx, hy, ex, ey, d, hd, W => by
    simp only [eqAs] at h
    split at h
    · rename_i hc
      obtain ⟨hnm, ho1, ho2, ha1, hs1, ha2, hs2⟩ := hc
      have hxi : ax[i]? = some x := by
        have : (ax.drop i)[0]? = some x := by rw [← ex]; rfl
        simpa using this
      have hyi : ay[i]? = some y := by
        have : (ay.drop i)[0]? = some y := by rw [← ey]; rfl
        simpa using this
      have ex' : xs = ax.drop (i + 1) := by
        have h0 : (ax.drop i).drop 1 = xs := by rw [← ex]; rfl
        rw [← h0, List.drop_drop]
      have ey' : ys = ay.drop (i + 1) := by
        have h0 : (ay.drop i).drop 1 = ys := by rw [← ey]; rfl
        rw [← h0, List.drop_drop]
      -- the parts
      have part_ : ∀ {ps : List AV} {cs : Array Value} {v : AV}, relPs g w ps cs.toList → ps[i]? = some v → f.offset = AV.sizes (ps.take i) → aggT P f.type = some v.isAgg → P.cellsOf f.type = v.size →
          ∃ z, (∀ W, (part f.type cs f.offset).run P W = .ok z W) ∧ isV g w v z := by
        intro ps cs v hr hv ho ha hs
        obtain ⟨cv, hcv, hcell, hle⟩ := relPs_nth hr hv
        obtain ⟨dd, hd⟩ := agg_under ha
        have hlen := relC_size hcv
        cases hg : v.isAgg with
        | true =>
          rw [hg] at ha
          refine ⟨.agg cv.toArray, fun W => ?_, by simpa [Value.cells] using hcv, hg⟩
          have e : cs.extract f.offset (f.offset + P.cellsOf f.type) = cv.toArray := by
            apply Array.ext_getElem?
            intro j
            rw [Array.getElem?_extract]
            simp only [Array.length_toList] at hle
            rw [hs, ← hlen, ho]
            split
            · rename_i hj
              have h1 := hcell j (by omega)
              simp at h1; rw [h1]; simp
            · rename_i hj
              have hj' : cv.length ≤ j := by omega
              simp [List.getElem?_eq_none hj']
          simp [part, run_isAgg' ha, run_sizeOf' hd, e]
        | false =>
          rw [hg] at ha
          obtain ⟨q, rfl⟩ := relC_scalar hcv hg
          have h1 := relC_cell1 hcv q (by simp)
          have h0 := hcell 0 (by simp)
          simp at h0
          refine ⟨q, fun W => ?_, ?_, ?_⟩
          · simp [part, run_isAgg' ha, ho, h0]
          · rw [cells_one (vAgg_one h1)]; exact hcv
          · rw [hg, vAgg_one h1]
      obtain ⟨X, hX, hvX⟩ := part_ hx hxi ho1 ha1 hs1
      obtain ⟨Y, hY, hvY⟩ := part_ hy hyi ho2 ha2 hs2
      simp only [Op.eqFields, hnm, if_true, Sem.run_bind, hX, hY, Result.andThen_ok, Sem.run_ite]
      rw [if_pos hnm]
      split at h
      · rename_i heq
        simp only [Sem.run_bind, hX, hY, Result.andThen_ok, eqA_sound n heq hvX hvY d (by omega) W, Bool.not_true, Bool.false_eq_true, if_false, Sem.run_ite]
        exact eqAs_sound n h hx hy ex' ey' d (by omega) W
      · rename_i heq
        simp only [Option.some.injEq] at h; subst h
        simp only [Sem.run_bind, hX, hY, Result.andThen_ok, eqA_sound n heq hvX hvY d (by omega) W, Bool.not_false, if_true, Sem.run_pure, Sem.run_ite]
      · cases h
    · cases h
end

end Go.Aff

/- Marking a row behind its end. -/
namespace Go.Aff
set_option linter.unusedVariables false
set_option linter.unusedSimpArgs false
variable {g : G} {w : World} {σ : AST}

theorem heap_mark {b n : Nat} {c : Array Value} {e : TypeId} {fr : Nat × Nat} (hc : w.heap[b]? = some (.cells c e fr)) :
    (w.freeze ⟨b, n, none⟩ 1).heap[b]? = some (.cells c e (if fr.1 == fr.2 then (n, n + 1) else (min fr.1 n, max fr.2 (n + 1)))) := by
  unfold World.freeze
  rw [if_neg (by decide)]
  simp only [Array.getElem?_modify, if_true, hc, Option.map_some]
theorem heap_mark_ne {b n k : Nat} (h : k ≠ b) : (w.freeze ⟨b, n, none⟩ 1).heap[k]? = w.heap[k]? := by
  unfold World.freeze
  rw [if_neg (by decide)]
  simp only [Array.getElem?_modify]
  rw [if_neg (fun e => h e.symm)]
theorem inv_mark {b L : Nat} {c : Array Value} {e : TypeId} {fr : Nat × Nat} (hI : Inv g σ w) (hb : g.base ≤ b) (hlim : g.lim b = some L) (hc : w.heap[b]? = some (.cells c e fr)) :
    Ev g w g (w.freeze ⟨b, c.size, none⟩ 1) ∧ Inv g σ (w.freeze ⟨b, c.size, none⟩ 1) := by
  have hsz : (w.freeze ⟨b, c.size, none⟩ 1).heap.size = w.heap.size := by
    unfold World.freeze; rw [if_neg (by decide)]; simp
  have hE : Ev g w g (w.freeze ⟨b, c.size, none⟩ 1) := by
    refine ⟨by unfold World.freeze; rfl, by unfold World.freeze; rfl, by unfold World.freeze; rfl, by omega, rfl, fun k hk => heap_mark_ne (by omega), fun _ _ h => h, fun k M hM => ⟨⟨M, hM, Nat.le_refl _⟩, fun c' e' fr' hc' => ?_⟩, fun t e h => ⟨e, h, rfl, Nat.le_refl _, fun _ => rfl, .inl rfl⟩⟩
    by_cases hk : k = b
    · subst hk; rw [hc] at hc'; cases hc'
      exact ⟨_, _, _, heap_mark hc, fun _ _ => rfl⟩
    · exact ⟨c', e', fr', by rw [heap_mark_ne hk]; exact hc', fun _ _ => rfl⟩
  refine ⟨hE, by rw [hsz]; exact hI.base, hI.nobj, ?_, hI.inj, ?_, hI.ntok, ?_, hI.tinj⟩
  · intro i o ho hl
    obtain ⟨b', sh, h1, h2, h3, h4⟩ := hI.obj i o ho hl
    have hne : b' ≠ b := fun h => by rw [h, hlim] at h3; cases h3
    refine ⟨b', sh, h1, h2, h3, ?_⟩
    cases o with
    | gone => trivial
    | pin l o vs xs => exact ⟨h4.1, by rw [heap_mark_ne hne]; exact h4.2.1, fun i v x h1 h2 => (h4.2.2 i v x h1 h2).imp id fun ⟨a, b⟩ => ⟨relC_mono hE a, b⟩⟩
    | cells v =>
      obtain ⟨c', e', hc', hr, hs⟩ := h4
      exact ⟨c', e', by rw [heap_mark_ne hne]; exact hc', relC_mono hE hr, hs⟩
    | map es ck =>
      obtain ⟨me, hm, hl', hes, hbn, hinj⟩ := h4
      exact ⟨me, by rw [heap_mark_ne hne]; exact hm, hl', fun i e m hk hmm => by
        obtain ⟨a0, a1, a2⟩ := hes i e m hk hmm
        exact ⟨a0, ⟨relC_mono hE a1.1, a1.2⟩, ⟨relC_mono hE a2.1, a2.2⟩⟩, hbn, hinj⟩
  · intro k M hM
    obtain ⟨h1, c', e', fr', hc', h2⟩ := hI.rows k M hM
    by_cases hk : k = b
    · subst hk; rw [hc] at hc'; cases hc'
      refine ⟨h1, _, _, _, heap_mark hc, h2.1, ?_⟩
      split
      · right; simp
      · rename_i hne
        simp at hne
        right; dsimp only; omega
    · exact ⟨h1, c', e', fr', by rw [heap_mark_ne hk]; exact hc', h2⟩
  · intro t e' ht
    obtain ⟨h1, h2, h3, h4, h5⟩ := hI.tok t e' ht
    refine ⟨h1, h2, h3, h4, fun b' o ha hlt => ?_⟩
    obtain ⟨h6, c', el, fr', hc', h7, h8⟩ := h5 b' o ha hlt
    refine ⟨h6, ?_⟩
    by_cases hk : b' = b
    · subst hk; rw [hc] at hc'; cases hc'
      refine ⟨_, _, _, heap_mark hc, h7, ?_⟩
      split
      · right; simp
      · rename_i hne
        simp at hne
        right; dsimp only; omega
    · exact ⟨c', el, fr', by rw [heap_mark_ne hk]; exact hc', h7, h8⟩
end Go.Aff

