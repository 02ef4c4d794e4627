import Derived.Test.YtahhjdknfhkgcaaG2
import Derived.Lib.ConvBytes
import Derived.Laws.IdiomCopy

set_option linter.unusedSimpArgs false
set_option linter.unusedVariables false

namespace Go.Aff

variable {g g' : G} {w w' : World} {σ σ' : AST} {P : Program}

theorem run_eq_bytes {t e : TypeId} (hu : P.underlying t = some (.array 32 e)) (he : P.underlying e = some (.int .u8)) (hc : P.cellsOf e = 1) (a b : List UInt8) (ha : a.length = 32) (hb : b.length = 32) (d : Nat) (w : World) :
    (Op.equalIn (d + 2) t (.agg (a.map fun b => Value.int .u8 b.toNat).toArray) (.agg (b.map fun b => Value.int .u8 b.toNat).toArray)).run P w = .ok (a == b) w := by
  have hag : aggT P e = some false := by simp [aggT, he]
  have hpart : ∀ (l : List UInt8) (i : Nat) (x : UInt8), l[i]? = some x → (part e (l.map fun b => Value.int .u8 b.toNat).toArray i).run P w = .ok (.int .u8 x.toNat) w := by
    intro l i x hx
    simp [part, run_isAgg' hag, hx]
  rw [Op.equalIn]
  simp only [Sem.run_bind, run_underlying hu, Result.andThen_ok, run_sizeOf' he, hc, Nat.mul_one]
  rw [Std.Legacy.Range.forIn_eq_forIn_range']
  have key : ∀ (n k : Nat), k + n = 32 →
      (forIn (List.range' k n 1) ((none : Option Bool), ()) fun i _ => do
        let x ← part e (a.map fun b => Value.int .u8 b.toNat).toArray i
        let y ← part e (b.map fun b => Value.int .u8 b.toNat).toArray i
        let r ← Op.equalIn (d + 1) e x y
        if (!r) = true then pure (ForInStep.done (some false, ())) else pure (ForInStep.yield (none, ())) : Sem (Option Bool × Unit)).run P w =
      .ok (if a.drop k == b.drop k then (none, ()) else (some false, ())) w := by
    intro n
    induction n with
    | zero =>
      intro k hk
      have h1 : a.drop k = [] := List.drop_of_length_le (by omega)
      have h2 : b.drop k = [] := List.drop_of_length_le (by omega)
      simp [h1, h2]
    | succ n ih =>
      intro k hk
      have hka : k < a.length := by omega
      have hkb : k < b.length := by omega
      have e1 : a.drop k = a[k] :: a.drop (k + 1) := List.drop_eq_getElem_cons hka
      have e2 : b.drop k = b[k] :: b.drop (k + 1) := List.drop_eq_getElem_cons hkb
      have hq : (Op.equalIn (d + 1) e (.int .u8 a[k].toNat) (.int .u8 b[k].toNat)).run P w = .ok (a[k] == b[k]) w := by
        rw [run_equalIn_int w d e .u8 .u8 _ _ he]
        congr 1
        rw [Bool.eq_iff_iff]
        simp only [beq_iff_eq]
        constructor
        · intro h; exact UInt8.toNat_inj.1 (by omega)
        · intro h; rw [h]
      simp only [List.range'_succ, List.forIn_cons, Sem.run_bind, hpart a k _ (List.getElem?_eq_getElem hka), hpart b k _ (List.getElem?_eq_getElem hkb), hq, Result.andThen_ok, Sem.run_ite, e1, e2]
      by_cases h : a[k] = b[k]
      · have := ih (k + 1) (by omega)
        simp only [h, beq_self_eq_true, Bool.not_true, Bool.false_eq_true, if_false, Sem.run_pure, Result.andThen_ok, List.cons_beq_cons, Bool.true_and]
        exact this
      · have h' : (a[k] == b[k]) = false := by simpa using h
        simp [h', h]
        intro hh
        rw [e1, e2] at hh
        simp only [List.cons.injEq] at hh
        exact h hh.1
  have := key 32 0 rfl
  simp only [List.drop_zero] at this
  have hr : ([:32] : Std.Legacy.Range).start = 0 ∧ ([:32] : Std.Legacy.Range).size = 32 ∧ ([:32] : Std.Legacy.Range).step = 1 := ⟨rfl, by simp [Std.Legacy.Range.size], rfl⟩
  rw [hr.1, hr.2.1, hr.2.2, this]
  simp only [Result.andThen_ok]
  by_cases h : a = b
  · subst h; simp
  · have h' : (a == b) = false := by simpa using h
    simp [h']

theorem run_eq_ints {t e : TypeId} {N : Nat} (hu : P.underlying t = some (.array N e)) (he : P.underlying e = some (.int .i64)) (hc : P.cellsOf e = 1) (a b : List Int) (ha : a.length = N) (hb : b.length = N) (d : Nat) (w : World) :
    (Op.equalIn (d + 2) t (.agg (a.map fun b => Value.int .i64 b).toArray) (.agg (b.map fun b => Value.int .i64 b).toArray)).run P w = .ok (a == b) w := by
  have hag : aggT P e = some false := by simp [aggT, he]
  have hpart : ∀ (l : List Int) (i : Nat) (x : Int), l[i]? = some x → (part e (l.map fun b => Value.int .i64 b).toArray i).run P w = .ok (.int .i64 x) w := by
    intro l i x hx
    simp [part, run_isAgg' hag, hx]
  rw [Op.equalIn]
  simp only [Sem.run_bind, run_underlying hu, Result.andThen_ok, run_sizeOf' he, hc, Nat.mul_one]
  rw [Std.Legacy.Range.forIn_eq_forIn_range']
  have key : ∀ (n k : Nat), k + n = N →
      (forIn (List.range' k n 1) ((none : Option Bool), ()) fun i _ => do
        let x ← part e (a.map fun b => Value.int .i64 b).toArray i
        let y ← part e (b.map fun b => Value.int .i64 b).toArray i
        let r ← Op.equalIn (d + 1) e x y
        if (!r) = true then pure (ForInStep.done (some false, ())) else pure (ForInStep.yield (none, ())) : Sem (Option Bool × Unit)).run P w =
      .ok (if a.drop k == b.drop k then (none, ()) else (some false, ())) w := by
    intro n
    induction n with
    | zero =>
      intro k hk
      have h1 : a.drop k = [] := List.drop_of_length_le (by omega)
      have h2 : b.drop k = [] := List.drop_of_length_le (by omega)
      simp [h1, h2]
    | succ n ih =>
      intro k hk
      have hka : k < a.length := by omega
      have hkb : k < b.length := by omega
      have e1 : a.drop k = a[k] :: a.drop (k + 1) := List.drop_eq_getElem_cons hka
      have e2 : b.drop k = b[k] :: b.drop (k + 1) := List.drop_eq_getElem_cons hkb
      have hq : (Op.equalIn (d + 1) e (.int .i64 a[k]) (.int .i64 b[k])).run P w = .ok (a[k] == b[k]) w := by
        exact run_equalIn_int w d e .i64 .i64 _ _ he
      simp only [List.range'_succ, List.forIn_cons, Sem.run_bind, hpart a k _ (List.getElem?_eq_getElem hka), hpart b k _ (List.getElem?_eq_getElem hkb), hq, Result.andThen_ok, Sem.run_ite, e1, e2]
      by_cases h : a[k] = b[k]
      · have := ih (k + 1) (by omega)
        simp only [h, beq_self_eq_true, Bool.not_true, Bool.false_eq_true, if_false, Sem.run_pure, Result.andThen_ok, List.cons_beq_cons, Bool.true_and]
        exact this
      · have h' : (a[k] == b[k]) = false := by simpa using h
        simp [h', h]
        intro hh
        rw [e1, e2] at hh
        simp only [List.cons.injEq] at hh
        exact h hh.1
  have := key N 0 (by omega)
  simp only [List.drop_zero] at this
  have hr : ([:N] : Std.Legacy.Range).start = 0 ∧ ([:N] : Std.Legacy.Range).size = N ∧ ([:N] : Std.Legacy.Range).step = 1 := ⟨rfl, by simp [Std.Legacy.Range.size], rfl⟩
  rw [hr.1, hr.2.1, hr.2.2, this]
  simp only [Result.andThen_ok]
  by_cases h : a = b
  · subst h; simp
  · have h' : (a == b) = false := by simpa using h
    simp [h']

theorem isU8_of {e : TypeId} (h : isU8 P e = true) : P.underlying e = some (.int .u8) := by
  unfold isU8 at h
  split at h
  · assumption
  · cases h

def isV (g : G) (w : World) (v : AV) (x : Value) : Prop := relC g w v x.cells.toList ∧ v.isAgg = vAgg x

theorem isV_of {v : AV} {x : Value} (h : relV g w v x) (hk : v.known = true) : isV g w v x := relV_known h hk

theorem bytes_beq (a b : List UInt8) : ((⟨a.toArray⟩ : ByteArray) == ⟨b.toArray⟩) = (a == b) := by
  rw [beq_toListBytes, bytes_toList, bytes_toList]

theorem isI64_of {e : TypeId} (h : isI64 P e = true) : P.underlying e = some (.int .i64) := by
  unfold isI64 at h
  split at h
  · assumption
  · cases h
theorem i64s_rel : ∀ {xs : List AV} {a : List Int} {cs : List Value}, i64s xs = some a → relPs g w xs cs → cs = a.map (fun b => Value.int .i64 b) ∧ a.length = xs.length
  | [], a, cs, h, hr => by simp [i64s] at h; subst h; simp only [relPs] at hr; subst hr; exact ⟨rfl, rfl⟩
  | x :: xs, a, cs, h, hr => by
    unfold i64s at h
    split at h
    · rename_i h0; cases h0
    · rename_i n r h0
      cases h0
      simp only [Option.map_eq_some_iff] at h
      obtain ⟨b, hb, rfl⟩ := h
      simp only [relPs] at hr
      obtain ⟨c1, c2, rfl, h1, h2⟩ := hr
      obtain ⟨rfl, hl⟩ := i64s_rel hb h2
      simp only [relC] at h1
      subst h1
      exact ⟨rfl, by simp [hl]⟩
    · cases h

mutual
theorem eqA_sound : ∀ (n : Nat) {t : TypeId} {x y : AV} {b : Bool} {X Y : Value}, eqA P n t x y = some b → isV g w x X → isV g w y Y → ∀ d, n ≤ d → ∀ W, (Op.equalIn d t X Y).run P W = .ok b W
  | 0, t, x, y, b, X, Y, h, hx, hy, d, hd, W => by simp [eqA] at h
  | n + 1, t, x, y, b, X, Y, h, hx, hy, d, hd, W => by
    obtain ⟨d, rfl⟩ : ∃ k, d = k + 1 := ⟨d - 1, by omega⟩
    simp only [eqA] at h
    have sc : ∀ {v : AV} {V : Value}, isV g w v V → v.isAgg = false → relC g w v [V] := by
      intro v V hv ha
      have := hv.2; rw [ha] at this
      have h0 := hv.1
      rw [cells_one this.symm] at h0; exact h0
    split at h
    · rename_i a b' hu
      simp only [Option.some.injEq] at h; subst h
      have h1 := sc hx rfl; have h2 := sc hy rfl
      simp only [relC, List.cons.injEq, and_true] at h1 h2; subst h1 h2
      exact run_equalIn_bool W d t a b' hu
    · rename_i kk k a k' b' hu
      split at h
      · rename_i hk; subst hk
        simp only [Option.some.injEq] at h; subst h
        have h1 := sc hx rfl; have h2 := sc hy rfl
        simp only [relC, List.cons.injEq, and_true] at h1 h2; subst h1 h2
        exact run_equalIn_int W d t k kk a b' hu
      · cases h
    · rename_i a b' hu
      simp only [Option.some.injEq] at h; subst h
      have h1 := sc hx rfl; have h2 := sc hy rfl
      simp only [relC, List.cons.injEq, and_true] at h1 h2
      obtain ⟨rfl, _⟩ := h1; obtain ⟨rfl, _⟩ := h2
      simp [Op.equalIn, run_underlying hu, bytes_beq]
    · rename_i e a b' hu
      split at h
      · rename_i he
        simp only [Option.some.injEq] at h; subst h
        obtain ⟨h1, h1'⟩ := hx; obtain ⟨h2, h2'⟩ := hy
        obtain ⟨cx, rfl⟩ := cells_agg h1'.symm
        obtain ⟨cy, rfl⟩ := cells_agg h2'.symm
        simp only [relC, Value.cells] at h1 h2
        obtain ⟨d, rfl⟩ : ∃ k, d = k + 1 := ⟨d - 1, by omega⟩
        have e1 : cx = (a.l.map fun b => Value.int .u8 b.toNat).toArray := by rw [← h1]
        have e2 : cy = (b'.l.map fun b => Value.int .u8 b.toNat).toArray := by rw [← h2]
        rw [e1, e2]
        exact run_eq_bytes hu (isU8_of he.1) he.2.1 a.l b'.l a.h b'.h d W
      · cases h
    · rename_i N e xs ys hu
      split at h
      · rename_i he
        obtain ⟨he1, he2, he3, he4, he5⟩ := he
        unfold eqI at h
        split at h
        · rename_i a b' ha hb
          simp only [Option.some.injEq] at h; subst h
          obtain ⟨h1, h1'⟩ := hx; obtain ⟨h2, h2'⟩ := hy
          obtain ⟨cx, rfl⟩ := cells_agg h1'.symm
          obtain ⟨cy, rfl⟩ := cells_agg h2'.symm
          simp only [relC, Value.cells] at h1 h2
          obtain ⟨d, rfl⟩ : ∃ k, d = k + 1 := ⟨d - 1, by omega⟩
          obtain ⟨k1, k2⟩ := i64s_rel ha h1
          obtain ⟨k3, k4⟩ := i64s_rel hb h2
          have e1 : cx = (a.map fun b => Value.int .i64 b).toArray := by rw [← k1]
          have e2 : cy = (b'.map fun b => Value.int .i64 b).toArray := by rw [← k3]
          rw [e1, e2]
          exact run_eq_ints hu (isI64_of he1) he2 a b' (by omega) (by omega) d W
        · cases h
      · cases h
    · rename_i fs xs ys hu
      split at h
      · rename_i hst
        obtain ⟨h1, h1'⟩ := hx; obtain ⟨h2, h2'⟩ := hy
        obtain ⟨cx, rfl⟩ := cells_agg h1'.symm
        obtain ⟨cy, rfl⟩ := cells_agg h2'.symm
        simp only [relC, Value.cells] at h1 h2
        have hf : P.fieldsOf t = fs := by simp [Program.fieldsOf, hu]
        rw [run_equalIn_struct W d t cx cy (by rw [hf]; exact hu) hst, hf]
        exact eqAs_sound n h h1 h2 (by simp) (by simp) d (by omega) W
      · cases h
    · rename_i q b' hu
      simp only [Option.some.injEq] at h; subst h
      have h1 := sc hx rfl; have h2 := sc hy rfl
      simp only [relC, List.cons.injEq, and_true] at h1; subst h1
      cases b' with
      | none => simp only [relC, List.cons.injEq, and_true] at h2; subst h2; simp [Op.equalIn, run_underlying hu]
      | some z => obtain ⟨i, p⟩ := z; simp only [relC, List.cons.injEq, and_true] at h2; obtain ⟨_, _, _, _, _, rfl⟩ := h2; simp [Op.equalIn, run_underlying hu]
    · rename_i q a hne hu
      simp only [Option.some.injEq] at h; subst h
      have h1 := sc hx rfl; have h2 := sc hy rfl
      simp only [relC, List.cons.injEq, and_true] at h2; subst h2
      cases a with
      | none => simp only [relC, List.cons.injEq, and_true] at h1; subst h1; simp [Op.equalIn, run_underlying hu]
      | some z => obtain ⟨i, p⟩ := z; simp only [relC, List.cons.injEq, and_true] at h1; obtain ⟨_, _, _, _, _, rfl⟩ := h1; simp [Op.equalIn, run_underlying hu]
    · cases h
theorem eqAs_sound : ∀ (n : Nat) {t : TypeId} {i : Nat} {fs : List Field} {xs ys ax ay : List AV} {b : Bool} {cx cy : Array Value}, eqAs P n t i fs xs ys ax ay = some b →
    relPs g w ax cx.toList → relPs g w ay cy.toList → xs = ax.drop i → ys = ay.drop i → ∀ d, n ≤ d → ∀ W, (Op.eqFields d cx cy fs).run P W = .ok b W
  | 0, t, i, fs, xs, ys, ax, ay, b, cx, cy, h, hx, hy, ex, ey, d, hd, W => by simp [eqAs] at h
  | n + 1, t, i, [], xs, ys, ax, ay, b, cx, cy, h, hx, hy, ex, ey, d, hd, W => by simp [eqAs] at h; subst h; simp [Op.eqFields]
  | n + 1, t, i, f :: fs, [], ys, ax, ay, b, cx, cy, h, hx, hy, ex, ey, d, hd, W => by simp [eqAs] at h
  | n + 1, t, i, f :: fs, x :: xs, [], ax, ay, b, cx, cy, h, hx, hy, ex, ey, d, hd, W => by simp [eqAs] at h
  | n + 1, t, i, f :: fs, x :: xs, y :: ys, ax, ay, b, cx, cy, h, hx, hy, ex, ey, d, hd, W => by
    simp only [eqAs] at h
    split at h
    · rename_i hc
      obtain ⟨hnm, ho1, ho2, ha1, hs1, ha2, hs2⟩ := hc
      have hxi : ax[i]? = some x := by
        have : (ax.drop i)[0]? = some x := by rw [← ex]; rfl
        simpa using this
      have hyi : ay[i]? = some y := by
        have : (ay.drop i)[0]? = some y := by rw [← ey]; rfl
        simpa using this
      have ex' : xs = ax.drop (i + 1) := by
        have h0 : (ax.drop i).drop 1 = xs := by rw [← ex]; rfl
        rw [← h0, List.drop_drop]
      have ey' : ys = ay.drop (i + 1) := by
        have h0 : (ay.drop i).drop 1 = ys := by rw [← ey]; rfl
        rw [← h0, List.drop_drop]
      -- the parts
      have part_ : ∀ {ps : List AV} {cs : Array Value} {v : AV}, relPs g w ps cs.toList → ps[i]? = some v → f.offset = AV.sizes (ps.take i) → aggT P f.type = some v.isAgg → P.cellsOf f.type = v.size →
          ∃ z, (∀ W, (part f.type cs f.offset).run P W = .ok z W) ∧ isV g w v z := by
        intro ps cs v hr hv ho ha hs
        obtain ⟨cv, hcv, hcell, hle⟩ := relPs_nth hr hv
        obtain ⟨dd, hd⟩ := agg_under ha
        have hlen := relC_size hcv
        cases hg : v.isAgg with
        | true =>
          rw [hg] at ha
          refine ⟨.agg cv.toArray, fun W => ?_, by simpa [Value.cells] using hcv, hg⟩
          have e : cs.extract f.offset (f.offset + P.cellsOf f.type) = cv.toArray := by
            apply Array.ext_getElem?
            intro j
            rw [Array.getElem?_extract]
            simp only [Array.length_toList] at hle
            rw [hs, ← hlen, ho]
            split
            · rename_i hj
              have h1 := hcell j (by omega)
              simp at h1; rw [h1]; simp
            · rename_i hj
              have hj' : cv.length ≤ j := by omega
              simp [List.getElem?_eq_none hj']
          simp [part, run_isAgg' ha, run_sizeOf' hd, e]
        | false =>
          rw [hg] at ha
          obtain ⟨q, rfl⟩ := relC_scalar hcv hg
          have h1 := relC_cell1 hcv q (by simp)
          have h0 := hcell 0 (by simp)
          simp at h0
          refine ⟨q, fun W => ?_, ?_, ?_⟩
          · simp [part, run_isAgg' ha, ho, h0]
          · rw [cells_one (vAgg_one h1)]; exact hcv
          · rw [hg, vAgg_one h1]
      obtain ⟨X, hX, hvX⟩ := part_ hx hxi ho1 ha1 hs1
      obtain ⟨Y, hY, hvY⟩ := part_ hy hyi ho2 ha2 hs2
      simp only [Op.eqFields, hnm, if_true, Sem.run_bind, hX, hY, Result.andThen_ok, Sem.run_ite]
      rw [if_pos hnm]
      split at h
      · rename_i heq
        simp only [Sem.run_bind, hX, hY, Result.andThen_ok, eqA_sound n heq hvX hvY d (by omega) W, Bool.not_true, Bool.false_eq_true, if_false, Sem.run_ite]
        exact eqAs_sound n h hx hy ex' ey' d (by omega) W
      · rename_i heq
        simp only [Option.some.injEq] at h; subst h
        simp only [Sem.run_bind, hX, hY, Result.andThen_ok, eqA_sound n heq hvX hvY d (by omega) W, Bool.not_false, if_true, Sem.run_pure, Sem.run_ite]
      · cases h
    · cases h
end

end Go.Aff

namespace Go.Aff
variable {g : G} {w : World} {σ : AST}

theorem heap_mark {b n : Nat} {c : Array Value} {e : TypeId} {fr : Nat × Nat} (hc : w.heap[b]? = some (.cells c e fr)) :
    (w.freeze ⟨b, n, none⟩ 1).heap[b]? = some (.cells c e (if fr.1 == fr.2 then (n, n + 1) else (min fr.1 n, max fr.2 (n + 1)))) := by
  unfold World.freeze
  rw [if_neg (by decide)]
  simp only [Array.getElem?_modify, if_true, hc, Option.map_some]
theorem heap_mark_ne {b n k : Nat} (h : k ≠ b) : (w.freeze ⟨b, n, none⟩ 1).heap[k]? = w.heap[k]? := by
  unfold World.freeze
  rw [if_neg (by decide)]
  simp only [Array.getElem?_modify]
  rw [if_neg (fun e => h e.symm)]
theorem inv_mark {b L : Nat} {c : Array Value} {e : TypeId} {fr : Nat × Nat} (hI : Inv g σ w) (hb : g.base ≤ b) (hlim : g.lim b = some L) (hc : w.heap[b]? = some (.cells c e fr)) :
    Ev g w g (w.freeze ⟨b, c.size, none⟩ 1) ∧ Inv g σ (w.freeze ⟨b, c.size, none⟩ 1) := by
  have hsz : (w.freeze ⟨b, c.size, none⟩ 1).heap.size = w.heap.size := by
    unfold World.freeze; rw [if_neg (by decide)]; simp
  have hE : Ev g w g (w.freeze ⟨b, c.size, none⟩ 1) := by
    refine ⟨by unfold World.freeze; rfl, by unfold World.freeze; rfl, by unfold World.freeze; rfl, by omega, rfl, fun k hk => heap_mark_ne (by omega), fun _ _ h => h, fun k M hM => ⟨⟨M, hM, Nat.le_refl _⟩, fun c' e' fr' hc' => ?_⟩, fun t e h => ⟨e, h, rfl, Nat.le_refl _, fun _ => rfl, .inl rfl⟩⟩
    by_cases hk : k = b
    · subst hk; rw [hc] at hc'; cases hc'
      exact ⟨_, _, _, heap_mark hc, fun _ _ => rfl⟩
    · exact ⟨c', e', fr', by rw [heap_mark_ne hk]; exact hc', fun _ _ => rfl⟩
  refine ⟨hE, by rw [hsz]; exact hI.base, hI.nobj, ?_, hI.inj, ?_, hI.ntok, ?_, hI.tinj⟩
  · intro i o ho hl
    obtain ⟨b', sh, h1, h2, h3, h4⟩ := hI.obj i o ho hl
    have hne : b' ≠ b := fun h => by rw [h, hlim] at h3; cases h3
    refine ⟨b', sh, h1, h2, h3, ?_⟩
    cases o with
    | gone => trivial
    | pin l o vs xs => exact ⟨h4.1, by rw [heap_mark_ne hne]; exact h4.2.1, fun i v x h1 h2 => (h4.2.2 i v x h1 h2).imp id fun ⟨a, b⟩ => ⟨relC_mono hE a, b⟩⟩
    | cells v =>
      obtain ⟨c', e', hc', hr, hs⟩ := h4
      exact ⟨c', e', by rw [heap_mark_ne hne]; exact hc', relC_mono hE hr, hs⟩
    | map es ck =>
      obtain ⟨me, hm, hl', hes, hbn, hinj⟩ := h4
      exact ⟨me, by rw [heap_mark_ne hne]; exact hm, hl', fun i e m hk hmm => by
        obtain ⟨a0, a1, a2⟩ := hes i e m hk hmm
        exact ⟨a0, ⟨relC_mono hE a1.1, a1.2⟩, ⟨relC_mono hE a2.1, a2.2⟩⟩, hbn, hinj⟩
  · intro k M hM
    obtain ⟨h1, c', e', fr', hc', h2⟩ := hI.rows k M hM
    by_cases hk : k = b
    · subst hk; rw [hc] at hc'; cases hc'
      refine ⟨h1, _, _, _, heap_mark hc, h2.1, ?_⟩
      split
      · right; simp
      · rename_i hne
        simp at hne
        right; dsimp only; omega
    · exact ⟨h1, c', e', fr', by rw [heap_mark_ne hk]; exact hc', h2⟩
  · intro t e' ht
    obtain ⟨h1, h2, h3, h4, h5⟩ := hI.tok t e' ht
    refine ⟨h1, h2, h3, h4, fun b' o ha hlt => ?_⟩
    obtain ⟨h6, c', el, fr', hc', h7, h8⟩ := h5 b' o ha hlt
    refine ⟨h6, ?_⟩
    by_cases hk : b' = b
    · subst hk; rw [hc] at hc'; cases hc'
      refine ⟨_, _, _, heap_mark hc, h7, ?_⟩
      split
      · right; simp
      · rename_i hne
        simp at hne
        right; dsimp only; omega
    · exact ⟨c', el, fr', by rw [heap_mark_ne hk]; exact hc', h7, h8⟩
end Go.Aff

namespace Go.Aff

variable {g g' : G} {w w' : World} {σ σ' : AST} {P : Program}

theorem bin_does (hI : Inv g σ w) {op : BinOp} {t : TypeId} {x y : AV} {X Y : Value} {ox oy : Operand} {K : AV → AST → Prop} (hx : relV g w x X) (hy : relV g w y Y) (h : binW P op t x y (fun v => K v σ)) :
    Does P g w (do eqGuard op t ox oy X Y; binOp op t X Y) K := by
  unfold binW at h
  split at h
  · rename_i k a k' b
    obtain ⟨rfl, h⟩ := h
    obtain rfl := relV_int hx
    obtain rfl := relV_int hy
    obtain ⟨z, w1, g1, v, σ1, h1, h2⟩ := int_does hI (t := t) h
    refine ⟨z, w1, g1, v, σ1, ?_, h2⟩
    rw [Sem.run_bind]
    have : (eqGuard op t ox oy (.int k a) (.int k b)).run P w = .ok () w := by cases op <;> simp [eqGuard]
    rw [this]; exact h1
  · rename_i a b
    obtain ⟨rfl, _⟩ := relV_str hx
    obtain ⟨rfl, _⟩ := relV_str hy
    obtain ⟨z, w1, g1, v, σ1, h1, h2⟩ := str_does hI (t := t) h
    refine ⟨z, w1, g1, v, σ1, ?_, h2⟩
    rw [Sem.run_bind]
    have : (eqGuard op t ox oy (.string ⟨a.toArray⟩) (.string ⟨b.toArray⟩)).run P w = .ok () w := by cases op <;> simp [eqGuard]
    rw [this]; exact h1
  · rename_i a b
    obtain rfl := relV_bool hx
    obtain rfl := relV_bool hy
    have eqrun : ∀ r, eqA P 40 t (.bool a) (.bool b) = some r → (Op.equal t (.bool a) (.bool b)).run P w = .ok r w := fun r hr => eqA_sound 40 hr (isV_of hx rfl) (isV_of hy rfl) Op.maxDepth (by decide) w
    unfold eqW at h
    split at h
    · obtain ⟨r, hr, hK⟩ := h
      exact Does.pure hI (by simp [eqGuard, binOp, eqrun r hr]) (relV_mkBool _) hK
    · obtain ⟨r, hr, hK⟩ := h
      exact Does.pure hI (by simp [eqGuard, binOp, eqrun r hr]) (relV_mkBool _) hK
    · exact h.elim
  · rename_i a b
    have form : ∀ {a : Option (Nat × List Nat)} {X : Value}, relV g w (.ptr a) X → ∃ p, X = .pointer p := by
      intro a X hX
      cases a with
      | none => exact ⟨_, relV_nilptr hX⟩
      | some q => obtain ⟨i, p⟩ := q; obtain ⟨_, _, _, _, _, rfl⟩ := relV_ptr hX; exact ⟨_, rfl⟩
    obtain ⟨p, rfl⟩ := form hx
    obtain ⟨q, rfl⟩ := form hy
    have eqrun : ∀ r, eqA P 40 t (.ptr a) (.ptr b) = some r → (Op.equal t (.pointer p) (.pointer q)).run P w = .ok r w := fun r hr => eqA_sound 40 hr (isV_of hx rfl) (isV_of hy rfl) Op.maxDepth (by decide) w
    unfold eqW at h
    split at h
    · obtain ⟨r, hr, hK⟩ := h
      exact Does.pure hI (by simp [eqGuard, binOp, eqrun r hr]) (relV_mkBool _) hK
    · obtain ⟨r, hr, hK⟩ := h
      exact Does.pure hI (by simp [eqGuard, binOp, eqrun r hr]) (relV_mkBool _) hK
    · exact h.elim
  · rename_i a b
    obtain ⟨hg, h⟩ := h
    obtain ⟨cx, rfl, _⟩ := relV_agg hx rfl
    obtain ⟨cy, rfl, _⟩ := relV_agg hy rfl
    have eqrun : ∀ r, eqA P 40 t (.agg a) (.agg b) = some r → (Op.equalIn 10000 t (.agg cx) (.agg cy)).run P w = .ok r w := fun r hr => eqA_sound 40 hr (isV_of hx rfl) (isV_of hy rfl) 10000 (by decide) w
    unfold eqW at h
    split at h
    · obtain ⟨r, hr, hK⟩ := h
      exact Does.pure hI (by simp only [Sem.run_bind, run_eqGuard_agg w _ t ox oy cx cy hg, Result.andThen_ok, run_eql_struct, eqrun r hr]) (relV_mkBool _) hK
    · obtain ⟨r, hr, hK⟩ := h
      exact Does.pure hI (by simp only [Sem.run_bind, run_eqGuard_agg w _ t ox oy cx cy hg, Result.andThen_ok, run_neq_struct, eqrun r hr]) (relV_mkBool _) hK
    · exact h.elim
  · rename_i a b
    obtain ⟨hg, h⟩ := h
    obtain ⟨cx, rfl, _⟩ := relV_agg hx rfl
    obtain ⟨cy, rfl, _⟩ := relV_agg hy rfl
    have eqrun : ∀ r, eqA P 40 t (.dig a) (.dig b) = some r → (Op.equalIn 10000 t (.agg cx) (.agg cy)).run P w = .ok r w := fun r hr => eqA_sound 40 hr (isV_of hx rfl) (isV_of hy rfl) 10000 (by decide) w
    unfold eqW at h
    split at h
    · obtain ⟨r, hr, hK⟩ := h
      exact Does.pure hI (by simp only [Sem.run_bind, run_eqGuard_agg w _ t ox oy cx cy hg, Result.andThen_ok, run_eql_struct, eqrun r hr]) (relV_mkBool _) hK
    · obtain ⟨r, hr, hK⟩ := h
      exact Does.pure hI (by simp only [Sem.run_bind, run_eqGuard_agg w _ t ox oy cx cy hg, Result.andThen_ok, run_neq_struct, eqrun r hr]) (relV_mkBool _) hK
    · exact h.elim
  · exact h.elim

theorem un_does (hI : Inv g σ w) {op : UnOp} {x : AV} {X : Value} {K : AV → AST → Prop} (hx : relV g w x X) (h : unW op x (fun v => K v σ)) : Does P g w (Op.unary op X) K := by
  unfold unW at h
  split at h
  · obtain rfl := relV_bool hx
    exact Does.pure hI (by simp [Op.unary]) (relV_mkBool _) h
  · obtain rfl := relV_int hx
    exact Does.pure hI (by simp [Op.unary, Op.intArith]) (relV_mkInt _ _) h
  · exact h.elim

/-! ### Conversions -/

theorem grownCap_le {need old : Nat} {e : TypeId} (h : need ≤ maxL) : need ≤ grownCap w need old e ∧ grownCap w need old e ≤ maxL := by
  have e1 : grownCap w need old e = need + w.tape w.drawn (.appendCap need old e) % (2 ^ 63 - need) := rfl
  rw [e1]
  unfold maxL at *
  have : w.tape w.drawn (.appendCap need old e) % (2 ^ 63 - need) < 2 ^ 63 - need := Nat.mod_lt _ (by omega)
  omega

theorem relEs_u8s (l : List UInt8) : relEs g w 1 (u8s l) (l.map fun b => Value.int .u8 b.toNat) := by
  induction l with
  | nil => simp [u8s, relEs]
  | cons b l ih => simp only [u8s, List.map_cons, relEs]; exact ⟨[_], _, rfl, rfl, by simp [relC], ih⟩

theorem freeze_alloc (w : World) (c : Array Value) (e : TypeId) (n : Nat) : (w.alloc (.cells c e)).freeze ⟨w.heap.size, n, none⟩ 1 = w.alloc (.cells c e (n, n + 1)) := by
  unfold World.freeze
  rw [if_neg (by omega)]
  unfold World.alloc
  congr 1
  apply Array.ext_getElem?
  intro j
  simp only [Array.getElem?_modify, Array.getElem?_push]
  by_cases hj : j = w.heap.size
  · subst hj; simp
  · have hj' : ¬ w.heap.size = j := fun h => hj h.symm
    simp [hj, hj']

theorem bytesWorld_eq (w : World) (e : TypeId) (s : ByteArray) :
    Lib.bytesWorld w e s = w.drew.alloc (.cells (Lib.bytesCells w e s) e ((Lib.bytesCells w e s).size, (Lib.bytesCells w e s).size + 1)) := by
  unfold Lib.bytesWorld
  exact freeze_alloc w.drew _ _ _


theorem unU8_cells : ∀ {xs : List AV} {l : List UInt8} {cs : List Value} {es : Nat}, unU8 xs = some l → relEs g w es xs cs → xs ≠ [] → ∃ ns : List Int, cs = ns.map (Value.int .u8) ∧ ns.map (fun n => UInt8.ofNat n.toNat) = l ∧ ns.length = xs.length
  | [], l, cs, es, h, hr, hn => absurd rfl hn
  | v :: xs, l, cs, es, h, hr, _ => by
    simp only [relEs] at hr
    obtain ⟨c1, c2, rfl, hl, h1, h2⟩ := hr
    have hv : ∃ n, v = .int .u8 n := by
      cases v with
      | int k n => cases k <;> first | exact ⟨n, rfl⟩ | simp [unU8] at h
      | _ => simp [unU8] at h
    obtain ⟨n, rfl⟩ := hv
    simp only [unU8, Option.map_eq_some_iff] at h
    obtain ⟨l', hl', rfl⟩ := h
    simp only [relC] at h1; subst h1
    by_cases hne : xs = []
    · subst hne
      simp only [relEs] at h2; subst h2
      simp only [unU8, Option.some.injEq] at hl'; subst hl'
      exact ⟨[n], rfl, rfl, rfl⟩
    · obtain ⟨ns, rfl, h3, h4⟩ := unU8_cells hl' h2 hne
      exact ⟨n :: ns, rfl, by simp [h3], by simp [h4]⟩

theorem foldl_push (ns : List Int) : ∀ (r : ByteArray), ns.foldl (fun r n => r.push (UInt8.ofNat n.toNat)) r = ⟨(r.data.toList ++ ns.map (fun n => UInt8.ofNat n.toNat)).toArray⟩ := by
  induction ns with
  | nil => intro r; simp
  | cons n ns ih =>
    intro r
    simp only [List.foldl_cons, ih, List.map_cons]
    congr 1
    apply Array.ext'
    simp [ByteArray.push]

theorem unU8_length : ∀ {xs : List AV} {l : List UInt8}, unU8 xs = some l → l.length = xs.length
  | [], l, h => by simp [unU8] at h; subst h; rfl
  | v :: xs, l, h => by
    have hv : ∃ n, v = .int .u8 n := by
      cases v with
      | int k n => cases k <;> first | exact ⟨n, rfl⟩ | simp [unU8] at h
      | _ => simp [unU8] at h
    obtain ⟨n, rfl⟩ := hv
    simp only [unU8, Option.map_eq_some_iff] at h
    obtain ⟨l', hl', rfl⟩ := h
    simp [unU8_length hl']

theorem conv_does (hI : Inv g σ w) {s d : TypeId} {x : AV} {X : Value} {K : AV → AST → Prop} (hx : relV g w x X) (h : convW P s d x σ K) : Does P g w (convert s d X) K := by
  unfold convW at h
  split at h
  · rename_i k' n
    obtain ⟨k, hd, ⟨u, hu⟩, hK⟩ := h
    obtain rfl := relV_int hx
    exact Does.pure hI (by simp [convert, run_underlying hd, run_underlying hu, Conv.intToInt]) (relV_mkInt _ _) hK
  · rename_i l
    obtain ⟨rfl, hlen⟩ := relV_str hx
    rcases h with ⟨hd, hs, hK⟩ | ⟨e, hd, he, hs, hK⟩
    · exact Does.pure hI (by simp [convert, run_underlying hd, run_underlying hs]) hx hK
    · have hrun := Lib.run_convert_string_bytes w s d e ⟨l.toArray⟩ hs hd he
      have hsz : (⟨l.toArray⟩ : ByteArray).size = l.length := bytes_size l
      have hcap := grownCap_le (w := w) (need := l.length) (old := 0) (e := e) hlen
      rw [bytesWorld_eq, hsz] at hrun
      have hcs : (Lib.bytesCells w e ⟨l.toArray⟩).toList = (l.map fun b => Value.int .u8 b.toNat) ++ List.replicate (grownCap w l.length 0 e - l.length) (.int .u8 0) := by
        simp [Lib.bytesCells, hsz]
      have hsize : (Lib.bytesCells w e ⟨l.toArray⟩).size = grownCap w l.length 0 e := by
        rw [← Array.length_toList, hcs]; simp; omega
      generalize Lib.bytesCells w e ⟨l.toArray⟩ = cells at *
      obtain ⟨hE1, hI1⟩ := inv_row (c := cells) (e := e) (fr := (cells.size, cells.size + 1)) (n := l.length) (inv_drew hI) (by omega) (.inr (Nat.le_refl _))
      simp only [World.size_drew] at hE1 hI1
      obtain ⟨hE2, hI2⟩ := inv_tok hI1 ⟨some (w.heap.size, 0), l.length, grownCap w l.length 0 e, 1⟩ hcap.1 hcap.2 (fun h => by cases h) (by
        intro b o hbo hlt
        simp only [Option.some.injEq, Prod.mk.injEq] at hbo
        obtain ⟨rfl, rfl⟩ := hbo
        refine ⟨by simp [G.row], ⟨cells, e, _, by rw [← World.size_drew]; exact alloc_new, by simp; omega, .inr (by simp)⟩, ?_⟩
        intro t e' ht o' ha hlt'
        obtain ⟨_, _, _, _, h5⟩ := hI.tok t e' ht
        obtain ⟨_, c2, el2, fr2, hc2, _⟩ := h5 _ _ ha hlt'
        have := lt_of_blk hc2
        omega)
      have hEE := (ev_drew g w).trans (hE1.trans hE2)
      refine ⟨_, _, _, .slice (.own σ.toks.length) (u8s l), _, hrun, hEE, hI2, relV_of ?_ rfl, hK⟩
      simp only [relC, Value.cells]
      refine ⟨some (mkAddr (w.heap.size, 0)), some (w.heap.size, 0), grownCap w l.length 0 e, 1, l.map fun b => Value.int .u8 b.toNat, by simp [mkAddr, u8s], .inl rfl, relEs_u8s l, by simpa [u8s] using hcap.1, hcap.2, (fun h => by cases h), (fun b o hbo => .inr ?_), ?_⟩
      · simp only [Option.some.injEq, Prod.mk.injEq] at hbo
        obtain ⟨rfl, rfl⟩ := hbo
        refine ⟨⟨cells, e, _, by rw [← World.size_drew]; exact alloc_new, fun j hj => ?_⟩, .inr ⟨l.length, by simp [G.row], by simp⟩⟩
        rw [← Array.getElem?_toList, hcs, Nat.zero_add, List.getElem?_append_left hj]
      · exact ⟨⟨some (w.heap.size, 0), l.length, grownCap w l.length 0 e, 1⟩, by rw [hI.ntok]; simp [G.row], by simp [u8s], fun _ => ⟨rfl, rfl⟩, .inr rfl⟩
  · rename_i tk xs
    rcases h with ⟨e, l, hs, he, hd, hl, hK⟩ | ⟨rfl, rfl, e, hs, he, hK⟩
    · obtain ⟨ad, a, c, es, css, rfl, had, hes, hc, hcm, hnone, hmem, _⟩ := relV_slice hx
      have hll := unU8_length hl
      refine Does.pure hI (x := .string ⟨l.toArray⟩) (v := .str l) ?_ (relV_mkStr (by omega)) hK
      rw [run_convert_bytes_string w s d e _ _ _ hs he hd]
      cases a with
      | none =>
        have h0 := hnone rfl
        have : xs = [] := List.eq_nil_of_length_eq_zero (by omega)
        subst this
        simp [unU8] at hl; subst hl
        cases ad with
        | none => simp [Conv.bytesToString]; rfl
        | some ad => exact run_bytesToString (P := P) w ad 0 c [] (by simp [loadCells, loadCellsFrom])
      | some bo =>
        obtain ⟨b, o⟩ := bo
        obtain rfl := had.some
        by_cases hne : xs = []
        · subst hne
          simp [unU8] at hl; subst hl
          have := run_bytesToString (P := P) w ⟨b, o, none⟩ 0 c [] (by simp [loadCells, loadCellsFrom])
          exact this
        · obtain ⟨ns, rfl, h3, h4⟩ := unU8_cells hl hes hne
          rcases hmem b o rfl with h0 | ⟨hr, _⟩
          · simp at h0; subst h0; simp at h4; exact absurd (List.eq_nil_of_length_eq_zero h4.symm) hne
          · have hload := run_loadCells_list (P := P) w ⟨b, o, none⟩ _ (rd_cell hr)
            simp only [List.length_map, h4] at hload
            have := run_bytesToString (P := P) w ⟨b, o, none⟩ xs.length c ns hload
            simp only [mkAddr]
            rw [this, foldl_push, h3]
            rfl
    · obtain ⟨ad, a, c, es, css, rfl, had, hes, hc, hcm, hnone, hmem, htk⟩ := relV_slice hx
      obtain ⟨hcn, b, o, L, rfl, hb, hL⟩ := htk
      obtain rfl := had.some
      obtain ⟨_, cc, ce, fr, hcc, _⟩ := hI.rows b L hL
      obtain ⟨hE, hI'⟩ := inv_mark hI hb hL hcc
      have hrun : (convert s s (.slice (some (mkAddr (b, o))) xs.length c)).run P w = .ok (.slice (some (mkAddr (b, o))) xs.length c) (w.freeze ⟨b, cc.size, none⟩ 1) := by
        have hsh : w.shape? b = some (ce, cc.size) := by unfold World.shape?; rw [hcc]
        simp [convert, run_underlying hs, run_underlying he, markStringish, hsh, mkAddr]
      refine ⟨_, _, _, .slice .full xs, _, hrun, hE, hI', relV_mono hE (relV_of ?_ rfl), hK⟩
      simp only [relC, Value.cells]
      exact ⟨some (mkAddr (b, o)), some (b, o), c, es, css, rfl, .inl rfl, hes, hc, hcm, hnone, hmem, hcn⟩
  · rename_i i p n
    split at h
    · rename_i v hobj
      split at h
      · rename_i dg hat
        obtain ⟨rfl, e, hs, he, hd, hK⟩ := h
        have hsc := (relV_scalar hx rfl rfl).1
        simp only [relC, List.cons.injEq, and_true] at hsc
        obtain ⟨b, sh, o, c, hg, ho, rfl, hmc, hcm⟩ := hsc
        obtain ⟨_, _, cc, ce, hc, hr, hsv⟩ := obj_cells hI hobj hg
        obtain ⟨cu, hcu, hcell, _⟩ := at_rel hr hat (hsv ▸ ho)
        simp only [relC] at hcu
        have hrd : rd w b o cu := ⟨cc, ce, (0, 0), hc, fun j hj => by rw [← hcell j hj]; simp⟩
        have hload := run_loadCells_list (P := P) w ⟨b, o, none⟩ _ (rd_cell hrd)
        have hlen : cu.length = 32 := by rw [hcu, List.length_map, dg.h]
        rw [hlen] at hload
        have hcu2 : cu = (dg.l.map fun b => (b.toNat : Int)).map (Value.int .u8) := by rw [hcu, List.map_map]; rfl
        rw [hcu2] at hload
        refine Does.pure hI (x := .string ⟨dg.l.toArray⟩) (v := .str dg.l) ?_ (relV_mkStr (by rw [dg.h]; decide)) hK
        rw [run_convert_bytes_string w s d e _ _ _ hs he hd]
        have := run_bytesToString (P := P) w ⟨b, o, none⟩ 32 c _ hload
        rw [this, foldl_push, List.map_map]
        have e : (dg.l.map ((fun n : Int => UInt8.ofNat n.toNat) ∘ fun b => (b.toNat : Int))) = dg.l := by
          conv => rhs; rw [← List.map_id dg.l]
          apply List.map_congr_left
          intro b _
          simp
        rw [e]; rfl
      · exact h.elim
    · exact h.elim
  · exact h.elim

/-! ### Slices' expressions -/

theorem relEs_take {es : Nat} : ∀ {xs : List AV} {cs : List Value} (h : Nat), relEs g w es xs cs → relEs g w es (xs.take h) (cs.take (h * es))
  | [], cs, h, hr => by simp only [relEs] at hr; subst hr; simp [relEs]
  | x :: xs, cs, 0, hr => by simp [relEs]
  | x :: xs, cs, h + 1, hr => by
    simp only [relEs] at hr
    obtain ⟨c1, c2, rfl, hl, h1, h2⟩ := hr
    simp only [List.take_succ_cons, relEs]
    refine ⟨c1, c2.take (h * es), ?_, hl, h1, relEs_take h h2⟩
    rw [List.take_append, hl, Nat.add_mul, Nat.one_mul, List.take_of_length_le (by omega)]
    congr 2; omega

theorem relEs_drop {es : Nat} : ∀ {xs : List AV} {cs : List Value} (l : Nat), relEs g w es xs cs → relEs g w es (xs.drop l) (cs.drop (l * es))
  | [], cs, l, hr => by simp only [relEs] at hr; subst hr; simp [relEs]
  | x :: xs, cs, 0, hr => by simpa using hr
  | x :: xs, cs, l + 1, hr => by
    simp only [relEs] at hr
    obtain ⟨c1, c2, rfl, hl, h1, h2⟩ := hr
    have e0 : (c1 ++ c2).drop ((l + 1) * es) = c2.drop (l * es) := by
      have e1 : (l + 1) * es = l * es + es := by rw [Nat.add_mul, Nat.one_mul]
      rw [List.drop_append, List.drop_of_length_le (show c1.length ≤ (l + 1) * es by omega), List.nil_append, hl, e1]
      congr 1; omega
    rw [e0]
    exact relEs_drop l h2

theorem bnd_run {v : Option AV} {X : Option Value} {dflt : Nat} {K : Nat → Prop} (hv : (v = none ∧ X = none) ∨ ∃ a x, v = some a ∧ X = some x ∧ relV g w a x) (h : bndW v dflt K) :
    ∃ n, K n ∧ ((X = none ∧ n = dflt) ∨ ∃ k, X = some (.int k n)) := by
  rcases hv with ⟨rfl, rfl⟩ | ⟨a, x, rfl, rfl, hr⟩
  · exact ⟨dflt, h, .inl ⟨rfl, rfl⟩⟩
  · cases a <;> simp only [bndW] at h <;> try exact h.elim
    rename_i k n
    obtain rfl := relV_int hr
    refine ⟨n.toNat, h.2, .inr ⟨k, ?_⟩⟩
    have : ((n.toNat : Nat) : Int) = n := by omega
    rw [this]

def relO (g : G) (w : World) (v : Option AV) (X : Option Value) : Prop := (v = none ∧ X = none) ∨ ∃ a x, v = some a ∧ X = some x ∧ relV g w a x

theorem run_bound (k : IntKind) (n y : Nat) (code : BoundsCode) (h : n ≤ y) : (Instr.sliceBound (.int k n) y code).run P w = .ok n w := by
  have := run_sliceBound (P := P) w k n y code (by omega) (by omega)
  simpa using this

theorem run_bounds (b : Bool) (len cap l h m : Nat) (LO HI MX : Option Value) (h1 : l ≤ h) (h2 : h ≤ m) (h3 : m ≤ cap) (hl : (LO = none ∧ l = 0) ∨ ∃ k, LO = some (.int k l)) (hh : (HI = none ∧ h = len) ∨ ∃ k, HI = some (.int k h))
    (hm : (MX = none ∧ m = cap) ∨ (HI.isSome = true ∧ ∃ k, MX = some (.int k m))) : (Instr.sliceBounds b len cap LO HI MX).run P w = .ok (l, h, m) w := by
  rcases hm with ⟨rfl, rfl⟩ | ⟨hs, k, rfl⟩
  · rcases hh with ⟨rfl, rfl⟩ | ⟨kh, rfl⟩ <;> rcases hl with ⟨rfl, rfl⟩ | ⟨kl, rfl⟩ <;> simp [Instr.sliceBounds, run_bound, h1, h2]
  · rcases hh with ⟨rfl, rfl⟩ | ⟨kh, rfl⟩
    · simp at hs
    · rcases hl with ⟨rfl, rfl⟩ | ⟨kl, rfl⟩ <;> simp [Instr.sliceBounds, run_bound, h1, h2, h3]

theorem str_extract (s : List UInt8) (l h : Nat) : ByteArray.extract ⟨s.toArray⟩ l h = ⟨((s.take h).drop l).toArray⟩ := by
  apply ByteArray.ext
  apply Array.ext'
  rw [ByteArray.data_extract]
  simp [List.drop_take]

theorem slice_does (hI : Inv g σ w) {t : TypeId} {x : AV} {X : Value} {lo hi mx : Option AV} {LO HI MX : Option Value} {K : AV → AST → Prop} (hx : relV g w x X) (hlo : relO g w lo LO) (hhi : relO g w hi HI) (hmx : relO g w mx MX)
    (h : sliceW P t x lo hi mx (fun v => K v σ)) : Does P g w (Instr.sliceAt t X LO HI MX) K := by
  unfold sliceW at h
  split at h
  · rename_i s
    obtain ⟨hu, hm, h⟩ := h
    obtain ⟨rfl, hlen⟩ := relV_str hx
    obtain ⟨l, h, hl⟩ := bnd_run hlo h
    obtain ⟨hh, h, hr⟩ := bnd_run hhi h
    obtain ⟨h1, h2, hK⟩ := h
    have hM : MX = none := by
      rcases hmx with ⟨_, h⟩ | ⟨a, x, rfl, _⟩
      · exact h
      · simp at hm
    subst hM
    have hsz := bytes_size s
    have hb := run_bounds (P := P) (w := w) false s.length s.length l hh s.length LO HI none h1 h2 (Nat.le_refl _) hl hr (.inl ⟨rfl, rfl⟩)
    refine Does.pure hI (x := .string ⟨((s.take hh).drop l).toArray⟩) (v := .str ((s.take hh).drop l)) ?_ (relV_mkStr (by simp; omega)) hK
    simp [Instr.sliceAt, Instr.slice, run_underlying hu, hsz, hb, str_extract]
  · rename_i tk xs
    obtain ⟨e, hu, hsizes, ⟨d, hd⟩, h⟩ := h
    obtain ⟨ad, a, c, es, css, rfl, had, hes, hc, hcm, hnone, hmem, htk⟩ := relV_slice hx
    obtain ⟨l, h, hl⟩ := bnd_run hlo h
    obtain ⟨hh, h, hr⟩ := bnd_run hhi h
    obtain ⟨h1, h2, h⟩ := h
    have hes' := relEs_drop l (relEs_take hh hes)
    have hlen' : ((xs.take hh).drop l).length = hh - l := by simp; omega
    have hesz : (xs.take hh).drop l ≠ [] → es = P.cellsOf e := by
      intro hne
      obtain ⟨v, hv⟩ := List.exists_mem_of_ne_nil _ hne
      have hv' : v ∈ xs := List.mem_of_mem_take (List.mem_of_mem_drop hv)
      obtain ⟨j, hj⟩ := List.mem_iff_getElem?.1 hv'
      obtain ⟨cx, hcx, hlx, _⟩ := relEs_nth hes hj
      rw [← hsizes v hv', ← relC_size hcx, hlx]
    -- the new slice
    have main : ∀ (m : Nat) (tk' : Tk), hh ≤ m → m ≤ c → tkOk g (if m = l then a else a.map fun x => (x.1, x.2 + l * P.cellsOf e)) (hh - l) (m - l) es tk' →
        (Instr.sliceBounds true xs.length c LO HI MX).run P w = .ok (l, hh, m) w → K (.slice tk' ((xs.take hh).drop l)) σ →
        Does P g w (Instr.sliceAt t (.slice ad xs.length c) LO HI MX) K := by
      intro m tk' hm1 hm2 htk' hb hK
      refine Does.pure hI (x := .slice (if m = l then ad else ad.map (·.add (l * P.cellsOf e))) (hh - l) (m - l)) (v := .slice tk' ((xs.take hh).drop l)) ?_ (relV_of ?_ rfl) hK
      · simp only [Instr.sliceAt, Instr.slice, Sem.run_bind, run_underlying hu, Result.andThen_ok, hb, run_sizeOf' hd, Sem.run_pure]
      · simp only [relC, Value.cells]
        refine ⟨_, _, m - l, es, _, by rw [hlen'], ?_, hes', by rw [hlen']; omega, by omega, ?_, ?_, by rw [hlen']; exact htk'⟩
        · cases a with
          | none => exact .inr ⟨by split <;> rfl, by have := hnone rfl; omega⟩
          | some bo =>
            obtain rfl := had.some
            left
            split
            · rfl
            · simp [mkAddr, mk_add]
        · intro hn
          split at hn
          · omega
          · cases a with
            | none => have := hnone rfl; omega
            | some bo => simp at hn
        · intro b o hbo
          by_cases hne : (xs.take hh).drop l = []
          · left
            rw [hne] at hes'
            simpa [relEs] using hes'
          · by_cases hcss : css = []
            · left; rw [hcss]; simp
            right
            have hee := hesz hne
            have hml : m ≠ l := by
              rintro rfl
              apply hne
              apply List.eq_nil_of_length_eq_zero
              rw [hlen']; omega
            rw [if_neg hml] at hbo
            cases a with
            | none => simp at hbo
            | some bo =>
              obtain ⟨b', o'⟩ := bo
              simp only [Option.map_some, Option.some.injEq, Prod.mk.injEq] at hbo
              obtain ⟨rfl, rfl⟩ := hbo
              have hsl := relEs_size hes'
              have hsc := relEs_size hes
              rw [hlen'] at hsl
              have hle : (hh - l) * es + l * es ≤ xs.length * es := by
                rw [← Nat.add_mul]; exact Nat.mul_le_mul_right _ (by omega)
              rcases hmem b' o' rfl with h0 | ⟨⟨c', e', fr, hc', hj⟩, hb⟩
              · exact absurd h0 hcss
              · rw [← hee]
                refine ⟨⟨c', e', fr, hc', fun j hjl => ?_⟩, ?_⟩
                · rw [List.getElem?_drop, List.getElem?_take]
                  rw [hsl] at hjl
                  have h7 : hh * es = (hh - l) * es + l * es := by rw [← Nat.add_mul]; congr 1; omega
                  rw [if_pos (by omega), ← hj (l * es + j) (by omega)]
                  congr 1; omega
                · rcases hb with hb | ⟨L, hL, hLe⟩
                  · exact .inl hb
                  · exact .inr ⟨L, hL, by rw [hsl]; omega⟩
    split at h
    · rename_i hmn
      have hM : MX = none := by
        rcases hmx with ⟨_, h⟩ | ⟨a, x, h0, _⟩
        · exact h
        · cases h0
      subst hM
      have hb := run_bounds (P := P) (w := w) true xs.length c l hh c LO HI none h1 (by omega) (Nat.le_refl _) hl hr (.inl ⟨rfl, rfl⟩)
      refine main c _ (by omega) (Nat.le_refl _) ?_ hb h
      cases tk with
      | none => trivial
      | lit => trivial
      | own k => trivial
      | full =>
        simp only [tkOk] at htk
        by_cases hq : hh = xs.length
        · simp only [hq, beq_self_eq_true, subTk, tkOk]; omega
        · have hq' : (hh == xs.length) = false := by simpa using hq
          simp only [hq', subTk, tkOk]
    · rename_i km m hmm
      obtain ⟨rfl, hsome, hK⟩ := h
      have hM : ∃ k, MX = some (.int k hh) := by
        rcases hmx with ⟨h0, _⟩ | ⟨a, x, h0, rfl, hr⟩
        · cases h0
        · cases h0
          obtain rfl := relV_int hr
          exact ⟨_, rfl⟩
      obtain ⟨k, rfl⟩ := hM
      have hHI : HI.isSome = true := by
        rcases hhi with ⟨rfl, _⟩ | ⟨a, x, _, rfl, _⟩
        · simp at hsome
        · rfl
      have hb := run_bounds (P := P) (w := w) true xs.length c l hh hh LO HI (some (.int k hh)) h1 (Nat.le_refl _) (by omega) hl hr (.inr ⟨hHI, k, rfl⟩)
      exact main hh .full (Nat.le_refl _) (by omega) (by simp [tkOk]) hb hK
    · exact h.elim
  · rename_i i p
    obtain ⟨e, n, hua, hn, ⟨d, hd⟩, hm, hl, h⟩ := h
    obtain ⟨b, sh, o, hg, ho, rfl⟩ := relV_ptr hx
    obtain ⟨hh, h, hr⟩ := bnd_run hhi h
    obtain ⟨h2, hK⟩ := h
    have hM : MX = none := by
      rcases hmx with ⟨_, h⟩ | ⟨a, x, rfl, _⟩
      · exact h
      · simp at hm
    have hL : LO = none := by
      rcases hlo with ⟨_, h⟩ | ⟨a, x, rfl, _⟩
      · exact h
      · simp at hl
    subst hM; subst hL
    have hb := run_bounds (P := P) (w := w) false n n 0 hh n none HI none (Nat.zero_le _) h2 (Nat.le_refl _) (.inl ⟨rfl, rfl⟩) hr (.inl ⟨rfl, rfl⟩)
    refine Does.pure hI (x := .slice (some ⟨b, o, none⟩) hh n) (v := .arr i p hh) ?_ (relV_of ?_ rfl) hK
    · rcases hua with ⟨a, hu, hua⟩ | hu
      · simp [Instr.sliceAt, Instr.slice, run_underlying hu, run_underlying hua, asAddr, hb, run_sizeOf' hd, mk_add]
      · simp [Instr.sliceAt, Instr.slice, run_underlying hu, Instr.sureAddr, hb, run_sizeOf' hd, mk_add]
    · simp only [relC, Value.cells]
      exact ⟨b, sh, o, n, hg, ho, rfl, h2, hn⟩
  · exact h.elim

theorem copy_does (hI : Inv g σ w) {ts : Array TypeId} {ty : TypeId} {x y : AV} {X Y : Value} {K : AV → AST → Prop} (hx : relV g w x X) (hy : relV g w y Y) (h : copyW P ts x y σ K) : Does P g w (Builtin.copy_ ts ty #[X, Y]) K := by
  obtain ⟨t, e, h0, hu, hce, ⟨u, hue⟩, h⟩ := h
  split at h
  · rename_i i p n l
    split at h
    · rename_i v hobj
      split at h
      · rename_i dg hat
        obtain ⟨rfl, hl, hok, hK⟩ := h
        have hsc := (relV_scalar hx rfl rfl).1
        simp only [relC, List.cons.injEq, and_true] at hsc
        obtain ⟨b, sh, o, c, hg, ho, rfl, hmc, hcm⟩ := hsc
        obtain ⟨rfl, _⟩ := relV_str hy
        obtain ⟨_, _, cc, ce, hc, hr, hsv⟩ := obj_cells hI hobj hg
        obtain ⟨cu, hcu, hcell, hle⟩ := at_rel hr hat (hsv ▸ ho)
        have hcul := relC_size hcu
        have hsz := bytes_size l
        let z : List Value := l.map fun b => Value.int .u8 b.toNat
        have hzl : z.length = 32 := by simp [z, hl]
        have hz : relC g w (.dig ⟨l, hl⟩) z := by simp only [relC]; rfl
        have hst := run_storeCells_at P b o ce z 0 cc w hc (by rw [hzl]; simp [AV.size] at hcul; rw [hcul] at hle; simpa using hle) (relC_cell1 hz)
        have hst' : (storeCells ⟨b, o, none⟩ z).run P w = .ok () (setBlk w b (.cells (splice cc.toList o z).toArray ce)) := by
          rw [hst, setRow_eq_setBlk _ hc]; simp [splice]
        have hfirst : (Builtin.firstCells 1 32 (.string ⟨l.toArray⟩)).run P w = .ok z.toArray w := by
          simp only [Builtin.firstCells, Sem.run_pure]
          congr 1
          apply Array.ext'
          have : ByteArray.extract ⟨l.toArray⟩ 0 32 = ⟨l.toArray⟩ := by rw [str_extract]; rw [← hl]; simp
          rw [this]; simp [z]
        have hse : (sizeOf e).run P w = .ok 1 w := by rw [run_sizeOf' hue, hce]
        have hrun : (Builtin.copy_ ts ty #[.slice (some ⟨b, o, none⟩) 32 c, .string ⟨l.toArray⟩]).run P w = .ok (.int .i64 32) (setBlk w b (.cells (splice cc.toList o z).toArray ce)) := by
          have hmin : Nat.min l.length 32 = 32 := by rw [hl]; rfl
          simp only [Builtin.copy_, h0, List.getElem?_toArray, List.getElem?_cons_zero, List.getElem?_cons_succ, Sem.run_bind, run_underlying hu, Result.andThen_ok, Builtin.lenOf, Sem.run_pure, hsz, hmin, hse, hfirst, hst', goInt]
          rfl
        have hE := ev_obj (o := .cells (splice cc.toList o z).toArray ce) hI (obj_cells hI hobj hg).1 (obj_cells hI hobj hg).2.1
        have hsh : (AV.dig ⟨l, hl⟩).shape = (AV.dig dg).shape := by simp [AV.shape]
        have hin : objIn g (setBlk w b (.cells (splice cc.toList o z).toArray ce)) b sh (.cells (v.setAt p (.dig ⟨l, hl⟩))) := by
          refine ⟨_, _, setBlk_same (lt_of_blk hc), ?_, by rw [setAt_shape hat hsh hok, hsv]⟩
          have := setAt_rel hr hat (hsv ▸ ho) hz hsh hok
          simpa using relC_mono hE this
        obtain ⟨hE', hI'⟩ := inv_setObj hI hobj rfl hg hin
        exact ⟨_, _, g, .int .i64 32, _, hrun, hE', hI', relV_mkInt _ _, hK⟩
      · exact h.elim
    · exact h.elim
  · exact h.elim

end Go.Aff

namespace Go.Aff

variable {g g' : G} {w w' : World} {σ σ' : AST} {P : Program}

theorem setCell_eq {b o : Nat} {c : Array Value} {e : TypeId} {fr : Nat × Nat} (v : Value) (h : w.heap[b]? = some (.cells c e fr)) :
    w.setCell ⟨b, o, none⟩ v = setBlk w b (.cells (c.setIfInBounds o v) e fr) := by
  obtain ⟨hb, hx⟩ := Array.getElem?_eq_some_iff.1 h
  unfold World.setCell setBlk
  congr 1
  apply Array.ext_getElem?
  intro j
  simp only [Array.getElem?_modify, Array.getElem?_setIfInBounds]
  split
  · rename_i e'; subst e'; rw [h]; rfl
  · rfl

theorem setBlk_setBlk (w : World) (b : Nat) (o o' : Obj) : setBlk (setBlk w b o) b o' = setBlk w b o' := by
  unfold setBlk
  simp

theorem setBlk_self {b : Nat} {o : Obj} (h : w.heap[b]? = some o) : setBlk w b o = w := by
  unfold setBlk
  have : w.heap.setIfInBounds b o = w.heap := by
    apply Array.ext_getElem?
    intro j
    rw [Array.getElem?_setIfInBounds]
    split
    · rename_i e; subst e; rw [if_pos (lt_of_blk h), h]
    · rfl
  rw [this]

theorem setCells_eq {b : Nat} {e : TypeId} {fr : Nat × Nat} : ∀ (vs : List Value) (o : Nat) (c : Array Value) (w : World), w.heap[b]? = some (.cells c e fr) → o + vs.length ≤ c.size →
    w.setCells b o vs = setBlk w b (.cells (splice c.toList o vs).toArray e fr)
  | [], o, c, w, h, hle => by
    have : (splice c.toList o []).toArray = c := by simp [splice]
    rw [this, setBlk_self h]; rfl
  | v :: vs, o, c, w, h, hle => by
    simp only [List.length_cons] at hle
    rw [World.setCells, setCell_eq v h, setCells_eq vs (o + 1) (c.setIfInBounds o v) _ (setBlk_same (lt_of_blk h)) (by simp; omega), setBlk_setBlk]
    congr 2
    apply Array.ext'
    apply List.ext_getElem?
    intro j
    simp only []
    rw [splice_get (by simp; omega), splice_get (by simp; omega)]
    simp only [List.length_cons, Array.toList_setIfInBounds, List.getElem?_set]
    by_cases ej : j = o
    · subst ej
      rw [if_neg (by omega), if_pos (by omega)]
      simp; omega
    · by_cases e2 : o + 1 ≤ j ∧ j < o + 1 + vs.length
      · rw [if_pos e2, if_pos (by omega)]
        have : j - o = (j - (o + 1)) + 1 := by omega
        rw [this, List.getElem?_cons_succ]
      · rw [if_neg e2, if_neg (by omega), if_neg (by omega)]

theorem elems_run {u e : TypeId} {y : AV} {Y : Value} {ys : List AV} (hy : relV g w y Y) (h : elemsOf P u y = some ys) (hs : ∀ v ∈ ys, v.size = P.cellsOf e) :
    ∃ cy, relEs g w (P.cellsOf e) ys cy ∧ (∀ W, (Builtin.lenOf Y).run P W = .ok ys.length W) ∧ (∀ W : World, W.heap = w.heap → (Builtin.firstCells (P.cellsOf e) ys.length Y).run P W = .ok cy.toArray W) ∧
      (∃ d, P.underlying u = some d ∧ ∀ k, d ≠ .int k) ∧ ys.length ≤ maxL := by
  unfold elemsOf at h
  split at h
  · rename_i tk ys'
    split at h
    · rename_i q hu
      cases h
      obtain ⟨ad, a, c, es, css, rfl, had, hes, hc, hcm, hnone, hmem, _⟩ := relV_slice hy
      by_cases hne : ys = []
      · subst hne
        refine ⟨[], by simp [relEs], fun W => by simp [Builtin.lenOf], fun W hW => ?_, ⟨_, hu, fun k h => by cases h⟩, by simp⟩
        cases ad with
        | none => simp [Builtin.firstCells]
        | some bo => simp [Builtin.firstCells, loadCells, loadCellsFrom]
      · obtain ⟨v, hv⟩ := List.exists_mem_of_ne_nil _ hne
        obtain ⟨j, hj⟩ := List.mem_iff_getElem?.1 hv
        obtain ⟨cx, hcx, hlx, _⟩ := relEs_nth hes hj
        have hee : es = P.cellsOf e := by rw [← hs v hv, ← relC_size hcx, hlx]
        subst hee
        refine ⟨css, hes, fun W => by simp [Builtin.lenOf], fun W hW => ?_, ⟨_, hu, fun k h => by cases h⟩, by omega⟩
        cases a with
        | none => have := hnone rfl; have : ys.length = 0 := by omega
                  exact absurd (List.eq_nil_of_length_eq_zero this) hne
        | some bo =>
          obtain ⟨b, o⟩ := bo
          obtain rfl := had.some
          have hsz := relEs_size hes
          have hcell : ∀ j v, css[j]? = some v → W.cell? ((mkAddr (b, o)).add j) = some v := by
            intro j v hjv
            rcases hmem b o rfl with h0 | ⟨hr, _⟩
            · subst h0; simp at hjv
            · have := rd_cell hr j v hjv
              unfold World.cell? at this ⊢
              rw [hW]; exact this
          exact run_firstCells_some W _ _ _ _ _ css hsz hcell
    · cases h
  · rename_i s
    split at h
    · rename_i hu
      cases h
      obtain ⟨rfl, hlen⟩ := relV_str hy
      have hsz := bytes_size s
      refine ⟨s.map fun b => Value.int .u8 b.toNat, ?_, fun W => by simp [Builtin.lenOf, hsz, u8s], fun W hW => ?_, ⟨_, hu, fun k h => by cases h⟩, by simpa [u8s] using hlen⟩
      · by_cases hne : s = []
        · subst hne; simp [u8s, relEs]
        · have h1 : P.cellsOf e = 1 := by
            cases s with
            | nil => exact absurd rfl hne
            | cons b s => exact (hs _ (by simp [u8s]; exact .inl rfl)).symm
          rw [h1]; exact relEs_u8s s
      · simp only [Builtin.firstCells, Sem.run_pure]
        congr 1
        apply Array.ext'
        have : ByteArray.extract ⟨s.toArray⟩ 0 (u8s s).length = ⟨s.toArray⟩ := by rw [str_extract]; simp [u8s]
        rw [this]; simp
    · cases h
  · cases h

section
variable {ts : Array TypeId} {t u e ty : TypeId} {d : TypeDesc} {i : TypeInfo} (h0 : ts[0]? = some t) (h1 : ts[1]? = some u) (hu : P.underlying t = some (.slice e)) (hd : P.underlying u = some d) (hni : ∀ k, d ≠ .int k)
  (hi : P.info? e = some i)
include h0 h1 hu hd hni hi

theorem run_append_in {a : Option Addr} {n c m : Nat} {Y : Value} {news : List Value} (hl : ∀ W, (Builtin.lenOf Y).run P W = .ok m W) (hf : (Builtin.firstCells (P.cellsOf e) m Y).run P w = .ok news.toArray w) (hfit : n + m ≤ c) :
    (Builtin.append_ ts ty #[.slice a n c, Y]).run P w = (match a with | some a => (storeCells (a.add (n * P.cellsOf e)) news).run P w | none => .ok () w).andThen fun _ w' => .ok (.slice a (n + m) c) w' := by
  have hs : i.size = P.cellsOf e := by simp [Program.cellsOf, hi]
  simp only [Builtin.append_, h0, h1, List.getElem?_toArray, List.getElem?_cons_zero, List.getElem?_cons_succ, Sem.run_bind, run_underlying hu, Result.andThen_ok, sizeOf, typeInfo, run_program, hi, Sem.run_pure, run_underlying hd, hs]
  cases d <;> first
    | (exact absurd rfl (hni _))
    | (simp only [Bool.false_eq_true, if_false, hl, Result.andThen_ok, Sem.run_ite, hfit, if_true, Sem.run_bind, Bool.not_false, hf]
       cases a with
       | none => simp
       | some a => simp)

theorem run_append_out {z : Value} (hz : i.zero = some z) {a : Option Addr} {n c m : Nat} {Y : Value} {olds news : List Value} (hl : ∀ W, (Builtin.lenOf Y).run P W = .ok m W) (hf : (Builtin.firstCells (P.cellsOf e) m Y).run P w.drew = .ok news.toArray w.drew)
    (ho : (Builtin.firstCells (P.cellsOf e) n (.slice a n c)).run P w.drew = .ok olds.toArray w.drew) (hfit : c < n + m) (h63 : n + m ≤ maxL) (h48 : Builtin.nextslicecap (n + m) c * i.bytes ≤ 281474976710656) :
    (Builtin.append_ ts ty #[.slice a n c, Y]).run P w =
      .ok (.slice (some ⟨w.heap.size, 0, none⟩) (n + m) (grownCap w (n + m) c e)) (w.drew.alloc (.cells (olds.toArray ++ news.toArray ++ Builtin.zeroCells z.cells (grownCap w (n + m) c e - (n + m))) e)) := by
  have hs : i.size = P.cellsOf e := by simp [Program.cellsOf, hi]
  have hn : ¬ (n + m ≤ c) := by omega
  have hmax : IntKind.i64.max = 9223372036854775807 := by decide
  unfold maxL at h63
  have h63' : ¬ (9223372036854775807 < ((n : Int) + (m : Int))) := by omega
  have h48' : ¬ (281474976710656 < Builtin.nextslicecap (n + m) c * i.bytes) := by omega
  simp only [Builtin.append_, h0, h1, List.getElem?_toArray, List.getElem?_cons_zero, List.getElem?_cons_succ, Sem.run_bind, run_underlying hu, Result.andThen_ok, sizeOf, typeInfo, run_program, hi, Sem.run_pure, run_underlying hd, hs]
  cases d <;> first
    | (exact absurd rfl (hni _))
    | (simp [hl, hn, h63', h48', hf, ho, Question.forced, zeroValue, typeInfo, hi, hz, newRow, grownCap, hmax]
       congr 2
       apply Array.ext'
       simp [List.append_assoc])

end

theorem relEs_append {es : Nat} : ∀ {xs ys : List AV} {cx cy : List Value}, relEs g w es xs cx → relEs g w es ys cy → relEs g w es (xs ++ ys) (cx ++ cy)
  | [], ys, cx, cy, h1, h2 => by simp only [relEs] at h1; subst h1; simpa using h2
  | x :: xs, ys, cx, cy, h1, h2 => by
    simp only [relEs] at h1
    obtain ⟨c1, c2, rfl, hl, h3, h4⟩ := h1
    simp only [List.cons_append, relEs]
    exact ⟨c1, c2 ++ cy, by simp, hl, h3, relEs_append h4 h2⟩

theorem relEs_es {es es' : Nat} {xs : List AV} {cs : List Value} (h : relEs g w es xs cs) (hs : ∀ v ∈ xs, v.size = es') : relEs g w es' xs cs := by
  cases xs with
  | nil => simpa [relEs] using h
  | cons x xs =>
    simp only [relEs] at h ⊢
    have : es = es' := by
      obtain ⟨c1, c2, _, hl, h3, _⟩ := h
      rw [← hs x (by simp), ← relC_size h3, hl]
    subst this; exact h

theorem grow_does (hI : Inv g σ w) {e : TypeId} {xs : List AV} {cells : Array Value} {css : List Value} {n cap es : Nat} (hes : relEs g w es xs css) (hpre : ∀ j, j < css.length → cells[j]? = css[j]?) (hsz : cells.size = cap * es) (hn : xs.length ≤ cap) (hcap : cap ≤ maxL)
    (toks' : List TokE) (σ' : AST) (hobjs : σ'.objs = σ.objs) (k : Nat) (hk : k ≤ g.toks.length)
    (htoks : (k = g.toks.length ∧ toks' = g.toks ++ [⟨some (w.heap.size, 0), xs.length, cap, es⟩] ∧ σ'.toks = σ.toks ++ [(xs.length, es)]) ∨
      (∃ e0, g.toks[k]? = some e0 ∧ e0.es = es ∧ e0.len < xs.length ∧ toks' = g.toks.set k ⟨some (w.heap.size, 0), xs.length, cap, es⟩ ∧ σ'.toks = σ.toks.set k (xs.length, es))) :
    ∃ g', Ev g w g' (w.drew.alloc (.cells cells e)) ∧ Inv g' σ' (w.drew.alloc (.cells cells e)) ∧ relC g' (w.drew.alloc (.cells cells e)) (.slice (.own k) xs) [.slice (some ⟨w.heap.size, 0, none⟩) xs.length cap] := by
  have hcs := relEs_size hes
  have hle : xs.length * es ≤ cells.size := by rw [hsz]; exact Nat.mul_le_mul_right _ hn
  have hfresh := lim_fresh hI
  let new : TokE := ⟨some (w.heap.size, 0), xs.length, cap, es⟩
  -- every owner, elder or new
  have getk : toks'[k]? = some new := by
    rcases htoks with ⟨rfl, rfl, _⟩ | ⟨e0, h0, _, _, rfl, _⟩
    · simp [new]
    · rw [List.getElem?_set]; simp [(List.getElem?_eq_some_iff.1 h0).1, new]
  have cases_ : ∀ (t : Nat) (q : TokE), toks'[t]? = some q → (t = k ∧ q = new) ∨ (t ≠ k ∧ g.toks[t]? = some q) := by
    intro t q hq
    by_cases e : t = k
    · subst e; rw [getk] at hq; cases hq; exact .inl ⟨rfl, rfl⟩
    · right
      refine ⟨e, ?_⟩
      rcases htoks with ⟨rfl, rfl, _⟩ | ⟨e0, h0, _, _, rfl, _⟩
      · rw [List.getElem?_append] at hq
        split at hq
        · exact hq
        · rename_i hlt
          have : t - g.toks.length ≠ 0 := by omega
          rw [List.getElem?_eq_none (by simp; omega)] at hq; cases hq
      · rw [List.getElem?_set] at hq
        rw [if_neg (fun h => e h.symm)] at hq; exact hq
  have sigk : ∀ (t : Nat), t ≠ k → ∀ q, σ.toks[t]? = some q → σ'.toks[t]? = some q := by
    intro t ht q hq
    rcases htoks with ⟨rfl, _, h⟩ | ⟨e0, h0, _, _, _, h⟩
    · rw [h]; exact getElem?_append_some hq
    · rw [h, List.getElem?_set, if_neg (fun h => ht h.symm)]; exact hq
  have sigkk : σ'.toks[k]? = some (xs.length, es) := by
    rcases htoks with ⟨rfl, _, h⟩ | ⟨e0, h0, _, _, _, h⟩
    · rw [h, ← hI.ntok]; simp
    · rw [h, List.getElem?_set]
      have : k < σ.toks.length := by rw [hI.ntok]; exact (List.getElem?_eq_some_iff.1 h0).1
      simp [this]
  have nlen : σ'.toks.length = toks'.length := by
    rcases htoks with ⟨rfl, h1, h2⟩ | ⟨e0, h0, _, _, h1, h2⟩
    · rw [h1, h2]; simp [hI.ntok]
    · rw [h1, h2]; simp [hI.ntok]
  let g' : G := { g with lim := fun b => if b = w.heap.size then some (xs.length * es) else g.lim b, toks := toks' }
  have hlim : ∀ b L, g.lim b = some L → g'.lim b = some L := by
    intro b L h
    show (if b = w.heap.size then _ else g.lim b) = _
    rw [if_neg (by rintro rfl; rw [hfresh] at h; cases h)]; exact h
  have hE : Ev g w g' (w.drew.alloc (.cells cells e)) := by
    have := ev_alloc (w := w.drew) (inv_drew hI) (.cells cells e) g.objs g'.lim toks' (fun i x h => h) hlim (by
      intro t q hq
      by_cases ek : t = k
      · subst ek
        refine ⟨new, getk, ?_⟩
        rcases htoks with ⟨rfl, _, _⟩ | ⟨e0, h0, hes0, hlt, _, _⟩
        · rw [List.getElem?_eq_none (by omega)] at hq; cases hq
        · rw [h0] at hq; cases hq
          exact ⟨hes0.symm, Nat.le_of_lt hlt, fun h => absurd h (by show xs.length ≠ _; omega), .inr fun b o hb => by
            have hb : some (w.heap.size, 0) = some (b, o) := hb
            simp only [Option.some.injEq, Prod.mk.injEq] at hb
            rw [← hb.1]; exact ⟨Nat.le_refl _, hb.2.symm⟩⟩
      · refine ⟨q, ?_, rfl, Nat.le_refl _, fun _ => rfl, .inl rfl⟩
        rcases htoks with ⟨rfl, rfl, _⟩ | ⟨e0, h0, _, _, rfl, _⟩
        · exact getElem?_append_some hq
        · rw [List.getElem?_set, if_neg (fun h => ek h.symm)]; exact hq)
    exact (ev_drew g w).trans this
  have hnew : (w.drew.alloc (.cells cells e)).heap[w.heap.size]? = some (.cells cells e) := by rw [← World.size_drew]; exact alloc_new
  have hold : ∀ b, b < w.heap.size → (w.drew.alloc (.cells cells e)).heap[b]? = w.heap[b]? := fun b hb => alloc_old (w := w.drew) (by simpa using hb)
  refine ⟨g', hE, ?_, ?_⟩
  · refine { base := Nat.le_trans hI.base hE.size, nobj := by rw [hobjs]; exact hI.nobj, obj := ?_, inj := by rw [hobjs]; exact hI.inj, rows := ?_, ntok := nlen, tok := ?_, tinj := ?_ }
    · intro j q hq hql
      rw [hobjs] at hq
      obtain ⟨b2, sh2, h2, hb2, hl2, hin2⟩ := hI.obj j q hq hql
      have hlt := objs_lt hI hq hql h2
      exact ⟨b2, sh2, h2, hb2, by show (if b2 = w.heap.size then _ else g.lim b2) = _; rw [if_neg (by omega)]; exact hl2, objIn_mono hE (hold _ hlt) hin2⟩
    · intro b L hb
      by_cases eb : b = w.heap.size
      · subst eb
        have : L = xs.length * es := by
          have h : (if w.heap.size = w.heap.size then some (xs.length * es) else g.lim w.heap.size) = some L := hb
          simp at h; exact h.symm
        subst this
        exact ⟨hI.base, cells, e, (0, 0), hnew, hle, .inl rfl⟩
      · have h : (if b = w.heap.size then some (xs.length * es) else g.lim b) = some L := hb
        rw [if_neg eb] at h
        obtain ⟨h1, c', e', fr', hc, hL⟩ := hI.rows b L h
        exact ⟨h1, c', e', fr', by rw [hold _ (lt_of_blk hc)]; exact hc, hL⟩
    · intro t q hq
      rcases cases_ t q hq with ⟨rfl, rfl⟩ | ⟨hne, hq'⟩
      · refine ⟨sigkk, hn, hcap, (fun h => by cases h), fun b o hbo hlt => ?_⟩
        simp only [new, Option.some.injEq, Prod.mk.injEq] at hbo
        obtain ⟨rfl, rfl⟩ := hbo
        exact ⟨by show (if w.heap.size = w.heap.size then _ else _) = _; simp [new], cells, e, (0, 0), hnew, by simp [new, hsz], .inl rfl⟩
      · obtain ⟨h1, h2, h3, h4, h5⟩ := hI.tok t q hq'
        refine ⟨sigk t hne _ h1, h2, h3, h4, fun b o ha hlt => ?_⟩
        obtain ⟨hl2, c', el, fr', hc, hsz', hfr⟩ := h5 b o ha hlt
        exact ⟨hlim _ _ hl2, c', el, fr', by rw [hold _ (lt_of_blk hc)]; exact hc, hsz', hfr⟩
    · intro t u q q' b o o' ht hu ha ha' hl hl'
      rcases cases_ t q ht with ⟨rfl, rfl⟩ | ⟨hne, h⟩ <;> rcases cases_ u q' hu with ⟨rfl, rfl⟩ | ⟨hne', h'⟩
      · rfl
      · obtain ⟨_, _, _, _, h5⟩ := hI.tok u q' h'
        obtain ⟨_, c', el, fr', hc, _⟩ := h5 b o' ha' hl'
        simp only [new, Option.some.injEq, Prod.mk.injEq] at ha
        have := lt_of_blk hc; omega
      · obtain ⟨_, _, _, _, h5⟩ := hI.tok t q h
        obtain ⟨_, c', el, fr', hc, _⟩ := h5 b o ha hl
        simp only [new, Option.some.injEq, Prod.mk.injEq] at ha'
        have := lt_of_blk hc; omega
      · exact hI.tinj t u q q' b o o' h h' ha ha' hl hl'
  · simp only [relC]
    refine ⟨some (mkAddr (w.heap.size, 0)), some (w.heap.size, 0), cap, es, css, rfl, .inl rfl, relEs_mono hE hes, hn, hcap, (fun h => by cases h), (fun b o hbo => .inr ?_), new, getk, Nat.le_refl _, fun _ => ⟨rfl, rfl⟩, .inr rfl⟩
    simp only [Option.some.injEq, Prod.mk.injEq] at hbo
    obtain ⟨rfl, rfl⟩ := hbo
    exact ⟨⟨cells, e, (0, 0), hnew, fun j hj => by rw [Nat.zero_add]; exact hpre j hj⟩, .inr ⟨xs.length * es, by show (if w.heap.size = w.heap.size then _ else _) = _; simp, by rw [hcs]; omega⟩⟩

end Go.Aff

