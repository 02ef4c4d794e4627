import Derived.Test.YtipnjeciaagabaaG7

set_option linter.unusedSimpArgs false
set_option linter.unusedVariables false

/- What operations do, soundly: keys of maps. -/
namespace Go.Aff
set_option linter.unusedVariables false
set_option linter.unusedSimpArgs false

variable {g g' : G} {w w' : World} {σ σ' : AST} {P : Program}

theorem run_getObj' {W : World} {b : Nat} {me : Array MapEntry} {ck : Nat} (h : W.heap[b]? = some (.map me ck)) : (getObj b).run P W = .ok (.map me ck) W := by
  simp [getObj, Sem.run, h]
theorem run_setObj' {W : World} {b : Nat} {o : Obj} {me : Array MapEntry} {ck : Nat} (h : W.heap[b]? = some (.map me ck)) : (setObj b o).run P W = .ok () (setBlk W b o) := by
  simp [setObj, Sem.run, h, setBlk]

/-! ### Keys -/
theorem run_partV {ps : List AV} {cs : Array Value} {i o : Nat} {v : AV} {T : TypeId} (hr : relPs g w ps cs.toList) (hv : ps[i]? = some v) (ho : o = AV.sizes (ps.take i)) (ha : aggT P T = some v.isAgg) (hs : P.cellsOf T = v.size) :
    ∃ z, (∀ W, (part T cs o).run P W = .ok z W) ∧ isV g w v z := by
  subst ho
  obtain ⟨cv, hcv, hcell, hle⟩ := relPs_nth hr hv
  obtain ⟨dd, hd⟩ := agg_under ha
  have hlen := relC_size hcv
  cases hg : v.isAgg with
  | true =>
    rw [hg] at ha
    refine ⟨.agg cv.toArray, fun W => ?_, by simpa [Value.cells] using hcv, hg⟩
    have e : cs.extract (AV.sizes (ps.take i)) (AV.sizes (ps.take i) + P.cellsOf T) = cv.toArray := by
      apply Array.ext_getElem?
      intro j
      rw [Array.getElem?_extract]
      simp only [Array.length_toList] at hle
      rw [hs, ← hlen]
      split
      · rename_i hj
        have h1 := hcell j (by omega)
        simp at h1; rw [h1]; simp
      · rename_i hj
        have hj' : cv.length ≤ j := by omega
        simp [List.getElem?_eq_none hj']
    simp [part, run_isAgg' ha, run_sizeOf' hd, e]
  | false =>
    rw [hg] at ha
    obtain ⟨q, rfl⟩ := relC_scalar hcv hg
    have h1 := relC_cell1 hcv q (by simp)
    have h0 := hcell 0 (by simp)
    simp at h0
    refine ⟨q, fun W => ?_, ?_, ?_⟩
    · simp [part, run_isAgg' ha, h0]
    · rw [cells_one (vAgg_one h1)]; exact hcv
    · rw [hg, vAgg_one h1]

theorem keyOks_each : ∀ (n : Nat) {i : Nat} {fs : List Field} {xs ax : List AV} {cx : Array Value}, keyOks P n i fs xs ax = true → relPs g w ax cx.toList → xs = ax.drop i →
    ∀ f ∈ fs, f.name ≠ "_" ∧ ∃ v z m, m < n ∧ keyOk P m f.type v = true ∧ (∀ W, (part f.type cx f.offset).run P W = .ok z W) ∧ isV g w v z
  | 0, i, fs, xs, ax, cx, h, hr, e => by simp [keyOks] at h
  | n + 1, i, [], xs, ax, cx, h, hr, e => by simp
  | n + 1, i, f :: fs, [], ax, cx, h, hr, e => by simp [keyOks] at h
  | n + 1, i, f :: fs, x :: xs, ax, cx, h, hr, e => by
    simp only [keyOks, Bool.and_eq_true, decide_eq_true_eq] at h
    obtain ⟨⟨⟨h1, h2, h3, h4⟩, h5⟩, h6⟩ := h
    have hxi : ax[i]? = some x := by
      have : (ax.drop i)[0]? = some x := by rw [← e]; rfl
      simpa using this
    have ex' : xs = ax.drop (i + 1) := by
      have h0 : (ax.drop i).drop 1 = xs := by rw [← e]; rfl
      rw [← h0, List.drop_drop]
    intro y hy
    rcases List.mem_cons.1 hy with rfl | hy
    · obtain ⟨z, hz, hv⟩ := run_partV (P := P) hr hxi h2 h3 h4
      exact ⟨h1, x, z, n, by omega, h5, hz, hv⟩
    · obtain ⟨a, v, z, m, hm, r⟩ := keyOks_each n h6 hr ex' y hy
      exact ⟨a, v, z, m, by omega, r⟩

theorem scV {v : AV} {V : Value} (hv : isV g w v V) (ha : v.isAgg = false) : relC g w v [V] := by
  have := hv.2; rw [ha] at this
  have h0 := hv.1
  rw [cells_one this.symm] at h0; exact h0

theorem keyOk_run (n : Nat) : ∀ {t : TypeId} {x : AV} {X : Value}, keyOk P n t x = true → isV g w x X → ∀ emp d, n ≤ d → ∀ W, (Instr.checkKey emp d t X).run P W = .ok () W := by
  induction n using Nat.strongRecOn with
  | _ n ih =>
  intro t x X h hx emp d hd W
  cases n with
  | zero => simp [keyOk] at h
  | succ n =>
    obtain ⟨d, rfl⟩ : ∃ k, d = k + 1 := ⟨d - 1, by omega⟩
    simp only [keyOk] at h
    split at h
    · rename_i b hu
      have h1 := scV hx rfl
      simp only [relC, List.cons.injEq, and_true] at h1; subst h1
      simp [Instr.checkKey, run_underlying hu]
    · rename_i kk k a hu
      have h1 := scV hx rfl
      simp only [relC, List.cons.injEq, and_true] at h1; subst h1
      simp [Instr.checkKey, run_underlying hu]
    · rename_i a hu
      have h1 := scV hx rfl
      simp only [relC, List.cons.injEq, and_true] at h1; obtain ⟨rfl, _⟩ := h1
      simp [Instr.checkKey, run_underlying hu]
    · rename_i fs xs hu
      obtain ⟨h1, h1'⟩ := hx
      obtain ⟨cx, rfl⟩ := cells_agg h1'.symm
      simp only [relC, Value.cells] at h1
      have each := keyOks_each (g := g) (w := w) n h h1 (by simp)
      rw [Instr.checkKey]
      simp only [Sem.run_bind, run_underlying hu, Result.andThen_ok]
      rw [← Array.forIn_toList]
      clear h
      generalize fs.toList = L at each
      induction L with
      | nil => simp
      | cons f L ihL =>
        obtain ⟨hn, v, z, m, hm, hk, hz, hv⟩ := each f (by simp)
        have p2 := ih m (by omega) hk hv emp d (by omega) W
        simp only [List.forIn_cons, Sem.run_bind, hn, ne_eq, not_false_eq_true, if_true, Result.andThen_ok, hz, p2, Sem.run_pure]
        exact ihL (fun y hy => each y (by simp [hy]))
    · cases h

/-! Flat values: one reading of cells. -/
mutual
def AV.flat : AV → Bool
  | .bool _ | .int _ _ | .str _ => true
  | .agg ps => AV.flats ps
  | _ => false
def AV.flats : List AV → Bool
  | [] => true
  | p :: ps => p.flat && AV.flats ps
end
theorem keyOk_flat (n : Nat) : (∀ {t : TypeId} {x : AV}, keyOk P n t x = true → x.flat = true) ∧ (∀ {i : Nat} {fs : List Field} {xs ax : List AV}, keyOks P n i fs xs ax = true → AV.flats xs = true) := by
  induction n with
  | zero => exact ⟨fun h => by simp [keyOk] at h, fun h => by simp [keyOks] at h⟩
  | succ n ih =>
    refine ⟨fun {t x} h => ?_, fun {i fs xs ax} h => ?_⟩
    · simp only [keyOk] at h
      split at h
      · rfl
      · rfl
      · rfl
      · simp only [AV.flat]; exact ih.2 h
      · cases h
    · cases fs with
      | nil => cases xs with
        | nil => rfl
        | cons x xs => simp [keyOks] at h
      | cons f fs => cases xs with
        | nil => simp [keyOks] at h
        | cons x xs =>
          simp only [keyOks, Bool.and_eq_true] at h
          simp only [AV.flats, Bool.and_eq_true]
          exact ⟨ih.1 h.1.2, ih.2 h.2⟩

def simpleC : Value → Bool
  | .bool _ | .int _ _ | .string _ => true
  | _ => false
mutual
theorem flat_det : ∀ {x : AV} {c1 c2 : List Value}, x.flat = true → relC g w x c1 → relC g' w' x c2 → c1 = c2 ∧ ∀ c ∈ c1, simpleC c = true
  | .bool _, c1, c2, _, h1, h2 => by simp only [relC] at h1 h2; subst h1 h2; exact ⟨rfl, by simp [simpleC]⟩
  | .int _ _, c1, c2, _, h1, h2 => by simp only [relC] at h1 h2; subst h1 h2; exact ⟨rfl, by simp [simpleC]⟩
  | .str _, c1, c2, _, h1, h2 => by simp only [relC] at h1 h2; obtain ⟨rfl, _⟩ := h1; obtain ⟨rfl, _⟩ := h2; exact ⟨rfl, by simp [simpleC]⟩
  | .agg ps, c1, c2, hf, h1, h2 => by simp only [relC] at h1 h2; simp only [AV.flat] at hf; exact flats_det hf h1 h2
  | .undef, c1, c2, hf, h1, h2 | .ptr _, c1, c2, hf, h1, h2 | .slice _ _, c1, c2, hf, h1, h2 | .eptr _, c1, c2, hf, h1, h2 | .mp _, c1, c2, hf, h1, h2 | .arr _ _ _, c1, c2, hf, h1, h2 | .fn _ _ _, c1, c2, hf, h1, h2
  | .nilFn, c1, c2, hf, h1, h2 | .lit _, c1, c2, hf, h1, h2 | .dig _, c1, c2, hf, h1, h2 | .tuple _, c1, c2, hf, h1, h2 | .iface _ _, c1, c2, hf, h1, h2 | .nilIface, c1, c2, hf, h1, h2 => by simp [AV.flat] at hf
theorem flats_det : ∀ {ps : List AV} {c1 c2 : List Value}, AV.flats ps = true → relPs g w ps c1 → relPs g' w' ps c2 → c1 = c2 ∧ ∀ c ∈ c1, simpleC c = true
  | [], c1, c2, _, h1, h2 => by simp only [relPs] at h1 h2; subst h1 h2; simp
  | p :: ps, c1, c2, hf, h1, h2 => by
    simp only [relPs] at h1 h2
    simp only [AV.flats, Bool.and_eq_true] at hf
    obtain ⟨a1, a2, rfl, h3, h4⟩ := h1
    obtain ⟨b1, b2, rfl, h5, h6⟩ := h2
    obtain ⟨rfl, s1⟩ := flat_det hf.1 h3 h5
    obtain ⟨rfl, s2⟩ := flats_det hf.2 h4 h6
    exact ⟨rfl, fun c hc => (List.mem_append.1 hc).elim (s1 c) (s2 c)⟩
end
theorem simple_same {c : Value} (h : simpleC c = true) (n : Nat) : Instr.sameBits n c c = true := by
  cases c <;> simp_all [simpleC, Instr.sameBits, beq_toListBytes]
theorem same_same {x : AV} {X Y : Value} (hf : x.flat = true) (hX : isV g w x X) (hY : isV g' w' x Y) : X = Y ∧ Instr.sameBits 10000 X X = true := by
  obtain ⟨h1, h2⟩ := hX
  obtain ⟨h3, h4⟩ := hY
  obtain ⟨e, s⟩ := flat_det hf h1 h3
  cases ha : x.isAgg with
  | true =>
    rw [ha] at h2 h4
    obtain ⟨a, rfl⟩ := cells_agg h2.symm
    obtain ⟨b, rfl⟩ := cells_agg h4.symm
    simp only [Value.cells] at e s
    have : a = b := by apply Array.ext'; exact e
    subst this
    refine ⟨rfl, ?_⟩
    rw [show (10000 : Nat) = 9999 + 1 from rfl]
    simp only [Instr.sameBits, beq_self_eq_true, Bool.true_and, List.all_eq_true]
    rintro ⟨p, q⟩ hpq
    have hz : ∀ (l : List Value) (p q : Value), (p, q) ∈ l.zip l → p = q ∧ p ∈ l := by
      intro l
      induction l with
      | nil => simp
      | cons z l ih =>
        intro p q h
        simp only [List.zip_cons_cons, List.mem_cons, Prod.mk.injEq] at h
        rcases h with ⟨rfl, rfl⟩ | h
        · exact ⟨rfl, by simp⟩
        · exact ⟨(ih p q h).1, by simp [(ih p q h).2]⟩
    obtain ⟨rfl, hm⟩ := hz _ p q hpq
    exact simple_same (s p hm) 9999
  | false =>
    rw [ha] at h2 h4
    rw [cells_one h2.symm, cells_one h4.symm] at e
    rw [cells_one h2.symm] at s
    simp at e s
    exact ⟨e, simple_same s 10000⟩

theorem eqA_eq (n : Nat) : (∀ {t : TypeId} {x y : AV} {m k : Nat}, eqA P n t x y = some true → keyOk P m t x = true → keyOk P k t y = true → x = y) ∧
    (∀ {t : TypeId} {i m k : Nat} {fs : List Field} {xs ys ax ay : List AV}, eqAs P n t i fs xs ys ax ay = some true → keyOks P m i fs xs ax = true → keyOks P k i fs ys ay = true → xs = ys) := by
  induction n with
  | zero => exact ⟨fun h => by simp [eqA] at h, fun h => by simp [eqAs] at h⟩
  | succ n ih =>
    refine ⟨fun {t x y m k} h hx hy => ?_, fun {t i m k fs xs ys ax ay} h hx hy => ?_⟩
    · cases m with
      | zero => simp [keyOk] at hx
      | succ m =>
      cases k with
      | zero => simp [keyOk] at hy
      | succ k =>
      simp only [eqA] at h
      simp only [keyOk] at hx hy
      split at h
      · simp at h; rw [h]
      · split at h
        · rename_i hk; subst hk; simp at h; rw [h]
        · cases h
      · simp at h; rw [h]
      · rename_i hu
        rw [hu] at hx; simp at hx
      · rename_i hu
        rw [hu] at hx; simp at hx
      · rename_i fs xs ys hu
        simp only [hu] at hx hy
        split at h
        · rw [ih.2 h hx hy]
        · cases h
      · rename_i hu; simp [hu] at hx
      · rename_i hu; simp [hu] at hx
      · cases h
    · cases m with
      | zero => simp [keyOks] at hx
      | succ m =>
      cases k with
      | zero => simp [keyOks] at hy
      | succ k =>
      cases fs with
      | nil =>
        cases xs with
        | nil => cases ys with
          | nil => rfl
          | cons y ys => simp [keyOks] at hy
        | cons x xs => simp [keyOks] at hx
      | cons f fs =>
        cases xs with
        | nil => simp [keyOks] at hx
        | cons x xs => cases ys with
          | nil => simp [keyOks] at hy
          | cons y ys =>
            simp only [keyOks, Bool.and_eq_true] at hx hy
            simp only [eqAs] at h
            split at h
            · split at h
              · rename_i heq
                rw [ih.1 heq hx.1.2 hy.1.2, ih.2 h hx.2 hy.2]
              · simp at h
              · cases h
            · cases h
theorem eqK_true {kt : TypeId} {k k' : AV} (h : eqK P kt k k' = some true) (hk : keyOk P 40 kt k = true) : k = k' := by
  unfold eqK at h
  split at h
  · rename_i hk'; exact (eqA_eq 40).1 h hk hk'
  · cases h
theorem eqK_eqA {kt : TypeId} {k k' : AV} {b : Bool} (h : eqK P kt k k' = some b) : eqA P 40 kt k k' = some b := by
  unfold eqK at h
  split at h
  · exact h
  · cases h
end Go.Aff

/- What operations do, soundly: maps. -/
namespace Go.Aff
set_option linter.unusedVariables false
set_option linter.unusedSimpArgs false

variable {g g' : G} {w w' : World} {σ σ' : AST} {P : Program}

def resOf (l : List MapEntry) (i : Nat) (r : Option Nat) : Option (Nat × Value) := r.bind fun j => (l[j]?).map fun m => (i + j, m.val)
def keysR (g : G) (w : World) (es : List (Nat × AV × AV)) (l : List MapEntry) : Prop := es.length = l.length ∧ ∀ (j : Nat) e m, es[j]? = some e → l[j]? = some m → isV g w e.2.1 m.key
theorem keysR_cons {e : Nat × AV × AV} {es : List (Nat × AV × AV)} {m : MapEntry} {l : List MapEntry} (h : keysR g w (e :: es) (m :: l)) : isV g w e.2.1 m.key ∧ keysR g w es l :=
  ⟨h.2 0 e m rfl rfl, by have := h.1; simpa using this, fun j e' m' h1 h2 => h.2 (j + 1) e' m' (by simpa using h1) (by simpa using h2)⟩
theorem res_succ {m : MapEntry} {l : List MapEntry} {i : Nat} {r : Option Nat} : resOf (m :: l) i (r.map (· + 1)) = resOf l (i + 1) r := by
  cases r with
  | none => rfl
  | some j => simp [resOf, Nat.add_assoc, Nat.add_comm 1 j]
theorem eq_run {kt : TypeId} {k k' : AV} {X Y : Value} {b : Bool} (h : eqK P kt k k' = some b) (hk : isV g w k X) (hk' : isV g w k' Y) (W : World) : (Op.equal kt X Y).run P W = .ok b W :=
  eqA_sound 40 (eqK_eqA h) hk hk' Op.maxDepth (by decide) W
theorem asking_run {kt : TypeId} {k : AV} {X : Value} (hk : isV g w k X) : ∀ {es : List (Nat × AV × AV)} {l : List MapEntry} {i : Nat} {r : Option Nat}, keysR g w es l → findE P kt k es = some r →
    ∀ W, (Instr.findAsking kt X l i).run P W = .ok (resOf l i r) W
  | [], l, i, r, hR, h, W => by
    simp only [findE, Option.some.injEq] at h; subst h
    have : l = [] := List.eq_nil_of_length_eq_zero (by have := hR.1; simpa using this.symm)
    subst this; simp [Instr.findAsking, resOf]
  | e :: es, [], i, r, hR, h, W => by have := hR.1; simp at this
  | e :: es, m :: l, i, r, hR, h, W => by
    obtain ⟨hv, hR'⟩ := keysR_cons hR
    simp only [findE] at h
    split at h
    · rename_i heq
      simp only [Option.some.injEq] at h; subst h
      simp [Instr.findAsking, eq_run heq hk hv, resOf]
    · rename_i heq
      simp only [Option.map_eq_some_iff] at h
      obtain ⟨r', h1, rfl⟩ := h
      have ih := asking_run (i := i + 1) hk hR' h1 W
      rw [res_succ]
      simp [Instr.findAsking, eq_run heq hk hv, ih]
    · cases h
theorem run_equalIn_str (W : World) (d : Nat) (t : TypeId) (a b : ByteArray) (hu : P.underlying t = some .string) : (Op.equalIn (d + 1) t (.string a) (.string b)).run P W = .ok (a == b) W := by
  simp [Op.equalIn, run_underlying hu]
theorem sameNow_run {kt : TypeId} {d : TypeDesc} (hd : P.underlying kt = some d) {X Y : Value} {b : Bool} (h : Instr.sameNow d X Y = some b) (W : World) : (Op.equal kt X Y).run P W = .ok b W := by
  unfold Instr.sameNow at h
  split at h
  · split at h
    · rename_i hk; subst hk
      simp only [Option.some.injEq] at h; subst h
      exact run_equalIn_int W 9999 kt _ _ _ _ hd
    · cases h
  · rename_i a b'
    simp only [Option.some.injEq] at h; subst h
    exact run_equalIn_str W 9999 kt _ _ hd
  · simp only [Option.some.injEq] at h; subst h
    exact run_equalIn_bool W 9999 kt _ _ hd
  · cases h
theorem now_run {kt : TypeId} {d : TypeDesc} (hd : P.underlying kt = some d) {k : AV} {X : Value} (hk : isV g w k X) : ∀ {es : List (Nat × AV × AV)} {l : List MapEntry} {i : Nat} {r : Option Nat} {q : Option (Nat × Value)}, keysR g w es l → findE P kt k es = some r →
    Instr.findNow d X l i = some q → q = resOf l i r
  | [], l, i, r, q, hR, h, hq => by
    simp only [findE, Option.some.injEq] at h; subst h
    have : l = [] := List.eq_nil_of_length_eq_zero (by have := hR.1; simpa using this.symm)
    subst this; simp [Instr.findNow] at hq; simp [resOf, hq]
  | e :: es, [], i, r, q, hR, h, hq => by have := hR.1; simp at this
  | e :: es, m :: l, i, r, q, hR, h, hq => by
    obtain ⟨hv, hR'⟩ := keysR_cons hR
    simp only [findE] at h
    simp only [Instr.findNow] at hq
    have agree : ∀ {b b' : Bool}, Instr.sameNow d X m.key = some b → eqK P kt k e.2.1 = some b' → b = b' := fun h1 h2 => by
      have e1 := sameNow_run hd h1 default
      have e2 := eq_run h2 hk hv default
      rw [e1] at e2; simpa using e2
    split at h
    · rename_i heq
      simp only [Option.some.injEq] at h; subst h
      split at hq
      · simp only [Option.some.injEq] at hq; subst hq; simp [resOf]
      · rename_i hs; have := agree hs heq; cases this
      · cases hq
    · rename_i heq
      simp only [Option.map_eq_some_iff] at h
      obtain ⟨r', h1, rfl⟩ := h
      rw [res_succ]
      split at hq
      · rename_i hs; have := agree hs heq; cases this
      · exact now_run hd hk hR' h1 hq
      · cases hq
    · cases h
theorem key_run {kt : TypeId} {d : TypeDesc} (hd : P.underlying kt = some d) {k : AV} {X : Value} (hk : isV g w k X) {es : List (Nat × AV × AV)} {l : List MapEntry} {r : Option Nat} (hR : keysR g w es l) (h : findE P kt k es = some r) (W : World) :
    (Instr.findKey kt X l).run P W = .ok (resOf l 0 r) W := by
  simp only [Instr.findKey, Sem.run_bind, run_underlying hd, Result.andThen_ok]
  split
  · rename_i q hq
    rw [now_run hd hk hR h hq]; simp
  · exact asking_run hk hR h W
theorem findE_lt {kt : TypeId} {k : AV} : ∀ {es : List (Nat × AV × AV)} {j : Nat}, findE P kt k es = some (some j) → ∃ e, es[j]? = some e ∧ eqK P kt k e.2.1 = some true
  | [], j, h => by simp [findE] at h
  | e :: es, j, h => by
    simp only [findE] at h
    split at h
    · rename_i heq
      simp at h; subst h; exact ⟨e, rfl, heq⟩
    · simp only [Option.map_eq_some_iff] at h
      obtain ⟨r', h1, h2⟩ := h
      cases r' with
      | none => simp at h2
      | some j' =>
        simp at h2; subst h2
        obtain ⟨e', h3, h4⟩ := findE_lt h1
        exact ⟨e', by simpa using h3, h4⟩
    · cases h

theorem keyOk_known {n : Nat} {t : TypeId} {x : AV} (h : keyOk P n t x = true) : x.known = true := by
  cases n with
  | zero => simp [keyOk] at h
  | succ n => simp only [keyOk] at h; split at h <;> first | rfl | cases h
theorem keyOk_desc {n : Nat} {t : TypeId} {x : AV} (h : keyOk P n t x = true) : ∃ d, P.underlying t = some d := by
  cases n with
  | zero => simp [keyOk] at h
  | succ n => simp only [keyOk] at h; split at h <;> first | exact ⟨_, by assumption⟩ | cases h
theorem relV_mp {i : Nat} {x : Value} (h : relV g w (.mp (some i)) x) : ∃ b sh, g.objs[i]? = some (b, sh) ∧ x = .map (some b) := by
  have := (relV_scalar h rfl rfl).1; simpa [relC] using this
theorem relV_mpnil {x : Value} (h : relV g w (.mp none) x) : x = .map none := by
  have := (relV_scalar h rfl rfl).1; simpa [relC] using this
theorem obj_map (hI : Inv g σ w) {i : Nat} {es : List (Nat × AV × AV)} {ck : Nat} (h : σ.objs[i]? = some (.map es ck)) {b : Nat} {sh : Shape} (hg : g.objs[i]? = some (b, sh)) :
    g.base ≤ b ∧ g.lim b = none ∧ objIn g w b sh (.map es ck) := by
  obtain ⟨b1, sh1, h1, hb, hl, hin⟩ := hI.obj i _ h rfl
  rw [hg] at h1; cases h1
  exact ⟨hb, hl, hin⟩
theorem keysR_of {b : Nat} {sh : Shape} {es : List (Nat × AV × AV)} {ck : Nat} {me : Array MapEntry} (hl : es.length = me.size)
    (he : ∀ (i : Nat) e m, es[i]? = some e → me[i]? = some m → m.born = e.1 ∧ (relC g w e.2.1 m.key.cells.toList ∧ e.2.1.isAgg = vAgg m.key) ∧ (relC g w e.2.2 m.val.cells.toList ∧ e.2.2.isAgg = vAgg m.val)) : keysR g w es me.toList :=
  ⟨by simpa using hl, fun j e m h1 h2 => (he j e m h1 (by simpa using h2)).2.1⟩
theorem zero_isV {t : TypeId} {z : AV} (h : ZeroOf P t z) : ∃ v, (∀ W, (zeroValue t).run P W = .ok v W) ∧ isV g w z v ∧ z.known = true := by
  obtain ⟨i, v, h1, h2, h3, h4, h5⟩ := h
  refine ⟨v, fun W => by simp [zeroValue, typeInfo, h1, h2], ⟨conc_rel g w h3, h4⟩, ?_⟩
  cases z <;> simp_all [conc, AV.known]
theorem okV_rel {v : AV} {x : Value} (h : isV g w v x) (ok b : Bool) : relV g w (okV ok b v) (if ok then .tuple #[x, .bool b] else x) := by
  cases ok with
  | false => exact relV_of h.1 h.2
  | true =>
    refine .inr (.inl ⟨_, _, rfl, rfl, ?_⟩)
    simp only [relVs]
    exact ⟨x, _, rfl, h.1, h.2, .bool b, [], rfl, by simp [relC, Value.cells], rfl, rfl⟩
theorem lookup_does (hI : Inv g σ w) {t : TypeId} {x k : AV} {X Y : Value} {ok : Bool} {K : AV → AST → Prop} (hx : relV g w x X) (hk : relV g w k Y) (h : lookupW P σ t x k ok (fun v => K v σ)) :
    Does P g w (Instr.lookup t X Y ok) K := by
  obtain ⟨kt, et, hu, hko, h⟩ := h
  have hkV := isV_of hk (keyOk_known hko)
  obtain ⟨d, hd⟩ := keyOk_desc hko
  have hck : ∀ emp W, (Instr.checkKey emp 10000 kt Y).run P W = .ok () W := fun emp W => keyOk_run 40 hko hkV emp 10000 (by decide) W
  split at h
  · obtain rfl := relV_mpnil hx
    obtain ⟨v, hz, hv, _⟩ := zero_isV (g := g) (w := w) h.1
    have hf := key_run hd hkV (es := []) (l := []) (r := none) ⟨rfl, by simp⟩ rfl w
    refine ⟨_, w, g, _, σ, ?_, Ev.refl _ _, hI, okV_rel hv ok false, h.2⟩
    simp [Instr.lookup, run_underlying hu, hck, hf, resOf, hz]
  · rename_i i
    obtain ⟨b, sh, hg, rfl⟩ := relV_mp hx
    split at h
    · rename_i es ck hobj
      obtain ⟨_, _, me, hm, hl, he, _, _⟩ := obj_map hI hobj hg
      obtain ⟨r, hr, h⟩ := h
      have hf := key_run hd hkV (keysR_of (b := b) (sh := sh) (ck := ck) hl he) hr w
      split at h
      · rename_i j
        obtain ⟨e, hj, _⟩ := findE_lt hr
        have hjm : j < me.size := by rw [← hl]; exact (List.getElem?_eq_some_iff.1 hj).1
        have hv := (he j e me[j] hj (Array.getElem?_eq_getElem hjm)).2.2
        refine ⟨_, w, g, _, σ, ?_, Ev.refl _ _, hI, okV_rel hv ok true, h e hj⟩
        simp [Instr.lookup, run_underlying hu, run_getObj' hm, hck, hf, resOf, hjm]
      · obtain ⟨v, hz, hv, _⟩ := zero_isV (g := g) (w := w) h.1
        refine ⟨_, w, g, _, σ, ?_, Ev.refl _ _, hI, okV_rel hv ok false, h.2⟩
        simp [Instr.lookup, run_underlying hu, run_getObj' hm, hck, hf, resOf, hz]
    · exact h.elim
  · exact h.elim
end Go.Aff

/- What operations do, soundly: maps that change, makes. -/
namespace Go.Aff
set_option linter.unusedVariables false
set_option linter.unusedSimpArgs false

variable {g g' : G} {w w' : World} {σ σ' : AST} {P : Program}

structure MapR (g : G) (w : World) (es : List (Nat × AV × AV)) (me : Array MapEntry) (ck : Nat) : Prop where
  len : es.length = me.size
  each : ∀ (i : Nat) e m, es[i]? = some e → me[i]? = some m → m.born = e.1 ∧ isV g w e.2.1 m.key ∧ isV g w e.2.2 m.val
  clock : ∀ e ∈ es, e.1 < ck
  nd : (es.map (·.1)).Nodup
theorem mapR_in {b : Nat} {sh : Shape} {es : List (Nat × AV × AV)} {ck : Nat} : objIn g w b sh (.map es ck) ↔ ∃ me : Array MapEntry, w.heap[b]? = some (.map me ck) ∧ MapR g w es me ck :=
  ⟨fun ⟨me, h1, h2, h3, h4, h5⟩ => ⟨me, h1, h2, h3, h4, h5⟩, fun ⟨me, h1, h2, h3, h4, h5⟩ => ⟨me, h1, h2, h3, h4, h5⟩⟩
theorem isV_mono (h : Ev g w g' w') {v : AV} {x : Value} (hv : isV g w v x) : isV g' w' v x := ⟨relC_mono h hv.1, hv.2⟩
theorem MapR.mono (h : Ev g w g' w') {es : List (Nat × AV × AV)} {me : Array MapEntry} {ck : Nat} (r : MapR g w es me ck) : MapR g' w' es me ck :=
  ⟨r.len, fun i e m h1 h2 => ⟨(r.each i e m h1 h2).1, isV_mono h (r.each i e m h1 h2).2.1, isV_mono h (r.each i e m h1 h2).2.2⟩, r.clock, r.nd⟩
theorem modify_map_fst {j : Nat} {f : Nat × AV × AV → Nat × AV × AV} (hf : ∀ e, (f e).1 = e.1) (es : List (Nat × AV × AV)) : (es.modify j f).map (·.1) = es.map (·.1) := by
  apply List.ext_getElem?
  intro i
  simp only [List.getElem?_map, List.getElem?_modify]
  cases es[i]? with
  | none => simp
  | some e => by_cases h : j = i <;> simp [h, hf]
theorem MapR.modify {es : List (Nat × AV × AV)} {me : Array MapEntry} {ck j : Nat} (r : MapR g w es me ck) {f : Nat × AV × AV → Nat × AV × AV} {F : MapEntry → MapEntry} (hf : ∀ e, (f e).1 = e.1)
    (hF : ∀ e m, es[j]? = some e → me[j]? = some m → (F m).born = (f e).1 ∧ isV g w (f e).2.1 (F m).key ∧ isV g w (f e).2.2 (F m).val) : MapR g w (es.modify j f) (me.modify j F) ck := by
  refine ⟨by simp [r.len], fun i e m h1 h2 => ?_, fun e he => ?_, by rw [modify_map_fst hf]; exact r.nd⟩
  · rw [List.getElem?_modify] at h1
    rw [Array.getElem?_modify] at h2
    cases hes : es[i]? with
    | none => simp [hes] at h1
    | some e0 =>
    cases hme : me[i]? with
    | none => simp [hme] at h2
    | some m0 =>
    simp only [hes, Option.map_eq_map, Option.map_some, Option.some.injEq] at h1
    simp only [hme, Option.map_some] at h2
    by_cases h : j = i
    · subst h
      simp at h1 h2
      subst h1 h2
      exact hF e0 m0 hes hme
    · simp [h] at h1 h2
      subst h1 h2
      exact r.each i e0 m0 hes hme
  · have h1 : e.1 ∈ (es.modify j f).map (·.1) := List.mem_map.2 ⟨e, he, rfl⟩
    rw [modify_map_fst hf] at h1
    obtain ⟨e0, h2, h3⟩ := List.mem_map.1 h1
    rw [← h3]; exact r.clock e0 h2
theorem MapR.push {es : List (Nat × AV × AV)} {me : Array MapEntry} {ck : Nat} (r : MapR g w es me ck) {k v : AV} {m : MapEntry} (hb : m.born = ck) (hk : isV g w k m.key) (hv : isV g w v m.val) :
    MapR g w (es ++ [(ck, k, v)]) (me.push m) (ck + 1) := by
  refine ⟨by simp [r.len], fun i e m' h1 h2 => ?_, fun e he => ?_, ?_⟩
  · rw [List.getElem?_append] at h1
    rw [Array.getElem?_push] at h2
    by_cases h : i < es.length
    · rw [if_pos h] at h1; rw [if_neg (by rw [← r.len]; omega)] at h2; exact r.each i e m' h1 h2
    · rw [if_neg h] at h1
      have hi : i - es.length = 0 := by
        have := (List.getElem?_eq_some_iff.1 h1).1; simp at this; omega
      rw [if_pos (by rw [← r.len]; omega)] at h2
      rw [hi] at h1; simp at h1 h2
      subst h1 h2
      exact ⟨hb, hk, hv⟩
  · rcases List.mem_append.1 he with he | he
    · have := r.clock e he; omega
    · simp at he; subst he; simp
  · rw [List.map_append, List.nodup_append]
    refine ⟨r.nd, by simp, fun a ha b hb' => ?_⟩
    simp at hb'; subst hb'
    obtain ⟨e, he, rfl⟩ := List.mem_map.1 ha
    have := r.clock e he; omega
theorem MapR.erase {es : List (Nat × AV × AV)} {me : Array MapEntry} {ck j : Nat} (r : MapR g w es me ck) (hj : j < es.length) : MapR g w (es.eraseIdx j) (me.eraseIdxIfInBounds j) ck := by
  have hm : j < me.size := by rw [← r.len]; exact hj
  have e0 : me.eraseIdxIfInBounds j = me.eraseIdx j hm := by simp [Array.eraseIdxIfInBounds, hm]
  rw [e0]
  refine ⟨by rw [List.length_eraseIdx, if_pos hj, Array.size_eraseIdx, r.len], fun i e m h1 h2 => ?_, fun e he => r.clock e (List.mem_of_mem_eraseIdx he), ?_⟩
  · rw [List.getElem?_eraseIdx] at h1
    rw [Array.getElem?_eraseIdx] at h2
    by_cases h : i < j
    · rw [if_pos h] at h1 h2; exact r.each i e m h1 h2
    · rw [if_neg h] at h1 h2; exact r.each _ e m h1 h2
  · have : (es.eraseIdx j).map (·.1) = (es.map (·.1)).eraseIdx j := by
      apply List.ext_getElem?
      intro i
      simp only [List.getElem?_map, List.getElem?_eraseIdx]
      split <;> rfl
    rw [this]
    exact r.nd.sublist (List.eraseIdx_sublist ..)
theorem MapR.empty {ck : Nat} : MapR g w [] #[] ck := ⟨rfl, fun i e m h => by simp at h, fun e h => by simp at h, by simp⟩

/-- The map of an object is put in place of another one. -/
theorem inv_setMap (hI : Inv g σ w) {i b ck : Nat} {sh : Shape} {es : List (Nat × AV × AV)} (hobj : σ.objs[i]? = some (.map es ck)) (hg : g.objs[i]? = some (b, sh)) {es' : List (Nat × AV × AV)} {me' : Array MapEntry} {ck' : Nat} (r : MapR g w es' me' ck') :
    Ev g w g (setBlk w b (.map me' ck')) ∧ Inv g (σ.set i (.map es' ck')) (setBlk w b (.map me' ck')) := by
  obtain ⟨hb, hlim, hin⟩ := obj_map hI hobj hg
  obtain ⟨me, hm, _⟩ := mapR_in.1 hin
  have hE := ev_obj (o := .map me' ck') hI hb hlim
  exact inv_setObj hI hobj rfl hg (mapR_in.2 ⟨me', setBlk_same (lt_of_blk hm), r.mono hE⟩)

theorem mapUpdate_does (hI : Inv g σ w) {t : TypeId} {m k v : AV} {M Y V : Value} {K : AST → Prop} (hm : relV g w m M) (hk : relV g w k Y) (hv : relV g w v V) (h : mapUpdateW P σ t m k v K) :
    DoesU P g w (Instr.mapUpdate t M Y V) K := by
  obtain ⟨kt, et, hu, hko, hvk, h⟩ := h
  have hkV := isV_of hk (keyOk_known hko)
  have hvV := isV_of hv hvk
  obtain ⟨d, hd⟩ := keyOk_desc hko
  have hck : ∀ emp W, (Instr.checkKey emp 10000 kt Y).run P W = .ok () W := fun emp W => keyOk_run 40 hko hkV emp 10000 (by decide) W
  split at h
  · rename_i i
    obtain ⟨b, sh, hg, rfl⟩ := relV_mp hm
    split at h
    · rename_i es ck hobj
      obtain ⟨hb, hlim, hin⟩ := obj_map hI hobj hg
      obtain ⟨me, hme, hR⟩ := mapR_in.1 hin
      obtain ⟨r, hr, h⟩ := h
      have hf := key_run hd hkV (keysR_of (b := b) (sh := sh) (ck := ck) hR.len hR.each) hr w
      split at h
      · rename_i j
        obtain ⟨e, hj, heq⟩ := findE_lt hr
        have hjm : j < me.size := by rw [← hR.len]; exact (List.getElem?_eq_some_iff.1 hj).1
        have he := hR.each j e me[j] hj (Array.getElem?_eq_getElem hjm)
        obtain ⟨e1, e2⟩ := same_same (keyOk_flat 40 |>.1 hko) (eqK_true heq hko ▸ he.2.1) hkV
        obtain ⟨hE, hI'⟩ := inv_setMap hI hobj hg (hR.modify (j := j) (f := fun e => (e.1, k, v)) (F := fun e => { e with key := Y, val := V }) (fun _ => rfl) fun e' m' h1 h2 => ⟨(hR.each j e' m' h1 h2).1, hkV, hvV⟩)
        refine ⟨_, g, _, ?_, hE, hI', h⟩
        have e2' : Instr.sameBits 10000 me[j].key Y = true := by rw [← e1]; exact e2
        simp [Instr.mapUpdate, run_underlying hu, run_getObj' hme, hck, hf, resOf, hjm, Instr.keyThatStays, e2', run_setObj' hme]
      · obtain ⟨hE, hI'⟩ := inv_setMap hI hobj hg (hR.push (m := { key := Y, val := V, born := ck }) rfl hkV hvV)
        refine ⟨_, g, _, ?_, hE, hI', h⟩
        simp [Instr.mapUpdate, run_underlying hu, run_getObj' hme, hck, hf, resOf, run_setObj' hme]
    · exact h.elim
  · exact h.elim

theorem mapEntry_does (hI : Inv g σ w) {t : TypeId} {m k : AV} {M Y : Value} {K : AV → AST → Prop} (hm : relV g w m M) (hk : relV g w k Y) (h : mapEntryW P σ t m k K) :
    Does P g w (Instr.mapEntry t M Y) K := by
  obtain ⟨kt, et, hu, hko, h⟩ := h
  have hkV := isV_of hk (keyOk_known hko)
  obtain ⟨d, hd⟩ := keyOk_desc hko
  have hck : ∀ emp W, (Instr.checkKey emp 10000 kt Y).run P W = .ok () W := fun emp W => keyOk_run 40 hko hkV emp 10000 (by decide) W
  have tup : ∀ {g : G} {w : World} {v : AV} {x : Value} {n : Nat}, isV g w v x → relV g w (.tuple [v, .int .i64 n]) (.tuple #[x, goInt n]) := fun h => by
    refine .inr (.inl ⟨_, _, rfl, rfl, ?_⟩)
    simp only [relVs]
    exact ⟨_, _, rfl, h.1, h.2, _, [], rfl, by simp [relC, Value.cells, goInt], rfl, rfl⟩
  split at h
  · rename_i i
    obtain ⟨b, sh, hg, rfl⟩ := relV_mp hm
    split at h
    · rename_i es ck hobj
      obtain ⟨hb, hlim, hin⟩ := obj_map hI hobj hg
      obtain ⟨me, hme, hR⟩ := mapR_in.1 hin
      obtain ⟨r, hr, h⟩ := h
      have hf := key_run hd hkV (keysR_of (b := b) (sh := sh) (ck := ck) hR.len hR.each) hr w
      split at h
      · rename_i j
        obtain ⟨e, hj, heq⟩ := findE_lt hr
        have hjm : j < me.size := by rw [← hR.len]; exact (List.getElem?_eq_some_iff.1 hj).1
        have he := hR.each j e me[j] hj (Array.getElem?_eq_getElem hjm)
        obtain ⟨e1, e2⟩ := same_same (keyOk_flat 40 |>.1 hko) (eqK_true heq hko ▸ he.2.1) hkV
        obtain ⟨hE, hI'⟩ := inv_setMap hI hobj hg (hR.modify (j := j) (f := fun e => (e.1, k, e.2.2)) (F := fun e => { e with key := Y }) (fun _ => rfl) fun e' m' h1 h2 => ⟨(hR.each j e' m' h1 h2).1, hkV, (hR.each j e' m' h1 h2).2.2⟩)
        refine ⟨_, _, g, _, _, ?_, hE, hI', tup (isV_mono hE he.2.2), h e hj⟩
        have e2' : Instr.sameBits 10000 me[j].key Y = true := by rw [← e1]; exact e2
        simp [Instr.mapEntry, run_underlying hu, run_getObj' hme, hck, hf, resOf, hjm, Instr.keyThatStays, e2', run_setObj' hme, he.1]
      · obtain ⟨v, hz, hv, _⟩ := zero_isV (g := g) (w := w) h.1
        obtain ⟨hE, hI'⟩ := inv_setMap hI hobj hg (hR.push (m := { key := Y, val := v, born := ck }) rfl hkV hv)
        refine ⟨_, _, g, _, _, ?_, hE, hI', tup (isV_mono hE hv), h.2⟩
        simp [Instr.mapEntry, run_underlying hu, run_getObj' hme, hck, hf, resOf, run_setObj' hme, hz]
    · exact h.elim
  · exact h.elim

theorem nodup_idx {es : List (Nat × AV × AV)} (h : (es.map (·.1)).Nodup) {i j : Nat} {e e' : Nat × AV × AV} (hi : es[i]? = some e) (hj : es[j]? = some e') (he : e.1 = e'.1) : i = j := by
  have h1 : (es.map (·.1))[i]? = some e.1 := by simp [hi]
  have h2 : (es.map (·.1))[j]? = some e.1 := by simp [hj, he]
  have hil := (List.getElem?_eq_some_iff.1 h1).1
  exact (List.getElem?_inj hil h).1 (by rw [h1, h2])

theorem entryStore_does (hI : Inv g σ w) {t : TypeId} {m st v : AV} {M S V : Value} {K : AST → Prop} (hm : relV g w m M) (hs : relV g w st S) (hv : relV g w v V) (h : entryStoreW σ m st v K) :
    DoesU P g w (Instr.entryStore t M S V) K := by
  obtain ⟨hvk, h⟩ := h
  have hvV := isV_of hv hvk
  split at h
  · rename_i i kk bn
    obtain ⟨b, sh, hg, rfl⟩ := relV_mp hm
    have hS := relV_int hs
    subst hS
    split at h
    · rename_i es ck hobj
      obtain ⟨hb, hlim, hin⟩ := obj_map hI hobj hg
      obtain ⟨me, hme, hR⟩ := mapR_in.1 hin
      obtain ⟨j, e, hj, hbn, h⟩ := h
      have hjm : j < me.size := by rw [← hR.len]; exact (List.getElem?_eq_some_iff.1 hj).1
      have he := hR.each j e me[j] hj (Array.getElem?_eq_getElem hjm)
      have hfind : me.findIdx? (fun e => (e.born : Int) == bn) = some j := by
        rw [Array.findIdx?_eq_some_iff_getElem]
        refine ⟨hjm, by simp [he.1, hbn], fun q hq => ?_⟩
        have hqe : q < es.length := by rw [hR.len]; omega
        have hq' := hR.each q es[q] me[q] (List.getElem?_eq_getElem hqe) (Array.getElem?_eq_getElem (by omega))
        simp only [beq_iff_eq, hq'.1]
        intro hc
        have : q = j := nodup_idx hR.nd (List.getElem?_eq_getElem hqe) hj (by omega)
        omega
      obtain ⟨hE, hI'⟩ := inv_setMap hI hobj hg (hR.modify (j := j) (f := fun e => (e.1, e.2.1, v)) (F := fun e => { e with val := V }) (fun _ => rfl) fun e' m' h1 h2 => ⟨(hR.each j e' m' h1 h2).1, (hR.each j e' m' h1 h2).2.1, hvV⟩)
      refine ⟨_, g, _, ?_, hE, hI', h⟩
      simp [Instr.entryStore, run_getObj' hme, asInt, asIntOf, hfind, run_setObj' hme]
    · exact h.elim
  · exact h.elim

theorem setMap_self {i : Nat} {o : AObj} (hobj : σ.objs[i]? = some o) : σ.set i o = σ := by
  have : σ.objs.set i o = σ.objs := by
    apply List.ext_getElem?
    intro j
    rw [List.getElem?_set]
    by_cases h : i = j
    · subst h; rw [if_pos rfl, hobj]; have := (List.getElem?_eq_some_iff.1 hobj).1; simp [this]
    · rw [if_neg h]
  simp only [AST.set, this]
theorem delete_does (hI : Inv g σ w) {ts : Array TypeId} {ty : TypeId} {m k : AV} {M Y : Value} {K : AV → AST → Prop} (hm : relV g w m M) (hk : relV g w k Y) (h : deleteW P ts m k σ (K (.tuple []))) :
    Does P g w (Builtin.delete_ ts ty #[M, Y]) K := by
  obtain ⟨t, kt, et, ht, hu, hko, h⟩ := h
  have hkV := isV_of hk (keyOk_known hko)
  obtain ⟨d, hd⟩ := keyOk_desc hko
  have hck : ∀ emp W, (Instr.checkKey emp 10000 kt Y).run P W = .ok () W := fun emp W => keyOk_run 40 hko hkV emp 10000 (by decide) W
  have tup : ∀ {g : G} {w : World}, relV g w (.tuple []) (.tuple #[]) := .inr (.inl ⟨_, _, rfl, rfl, by simp [relVs]⟩)
  split at h
  · obtain rfl := relV_mpnil hm
    refine ⟨_, w, g, _, σ, ?_, Ev.refl _ _, hI, tup, h⟩
    simp [Builtin.delete_, ht, run_underlying hu, hck]
  · rename_i i
    obtain ⟨b, sh, hg, rfl⟩ := relV_mp hm
    split at h
    · rename_i es ck hobj
      obtain ⟨hb, hlim, hin⟩ := obj_map hI hobj hg
      obtain ⟨me, hme, hR⟩ := mapR_in.1 hin
      obtain ⟨r, hr, h⟩ := h
      have hf := key_run hd hkV (keysR_of (b := b) (sh := sh) (ck := ck) hR.len hR.each) hr w
      split at h
      · rename_i j
        obtain ⟨e, hj, _⟩ := findE_lt hr
        have hje := (List.getElem?_eq_some_iff.1 hj).1
        have hjm : j < me.size := by rw [← hR.len]; exact hje
        obtain ⟨hE, hI'⟩ := inv_setMap hI hobj hg (hR.erase hje)
        refine ⟨_, _, g, _, _, ?_, hE, hI', tup, h⟩
        simp [Builtin.delete_, ht, run_underlying hu, run_getObj' hme, hck, hf, resOf, hjm, run_setObj' hme]
      · obtain ⟨hE, hI'⟩ := inv_setMap hI hobj hg hR
        rw [setMap_self hobj] at hI'
        refine ⟨_, _, g, _, σ, ?_, hE, hI', tup, h⟩
        simp [Builtin.delete_, ht, run_underlying hu, run_getObj' hme, hck, hf, resOf, run_setObj' hme]
    · exact h.elim
  · exact h.elim
theorem clear_does (hI : Inv g σ w) {ts : Array TypeId} {ty : TypeId} {m : AV} {M : Value} {K : AV → AST → Prop} (hm : relV g w m M) (h : clearW P ts m σ (K (.tuple []))) :
    Does P g w (Builtin.clear_ ts ty #[M]) K := by
  obtain ⟨⟨t, u, ht, hu⟩, h⟩ := h
  have tup : ∀ {g : G} {w : World}, relV g w (.tuple []) (.tuple #[]) := .inr (.inl ⟨_, _, rfl, rfl, by simp [relVs]⟩)
  split at h
  · obtain rfl := relV_mpnil hm
    refine ⟨_, w, g, _, σ, ?_, Ev.refl _ _, hI, tup, h⟩
    simp [Builtin.clear_, ht, run_underlying hu]
  · rename_i i
    obtain ⟨b, sh, hg, rfl⟩ := relV_mp hm
    split at h
    · rename_i es ck hobj
      obtain ⟨hb, hlim, hin⟩ := obj_map hI hobj hg
      obtain ⟨me, hme, hR⟩ := mapR_in.1 hin
      obtain ⟨hE, hI'⟩ := inv_setMap (es' := []) (me' := #[]) (ck' := ck) hI hobj hg MapR.empty
      refine ⟨_, _, g, _, _, ?_, hE, hI', tup, h⟩
      simp [Builtin.clear_, ht, run_underlying hu, run_getObj' hme, run_setObj' hme]
    · exact h.elim
  · exact h.elim
theorem makeMap_does (hI : Inv g σ w) {t : TypeId} {K : AV → AST → Prop} (h : K (.mp (some σ.objs.length)) (σ.push (.map [] 0))) : Does P g w (Instr.makeMap t none) K := by
  obtain ⟨hE, hI'⟩ := inv_push (o := .map [] 0) (B := .map #[] 0) (sh := .leaf) hI fun g' _ => mapR_in.2 ⟨#[], alloc_new, MapR.empty⟩
  refine ⟨.map (some w.heap.size), w.alloc (.map #[] 0), _, _, _, ?_, hE, hI', relV_of ?_ rfl, h⟩
  · simp [Instr.makeMap]
  · simp only [relC, Value.cells]
    exact ⟨w.heap.size, .leaf, by rw [hI.nobj]; simp, rfl⟩
end Go.Aff

