import Derived.Test.YtipnjeciaagabaaG6

set_option linter.unusedSimpArgs false
set_option linter.unusedVariables false

/- What operations do, soundly (8): append. -/
namespace Go.Aff
set_option linter.unusedVariables false
set_option linter.unusedSimpArgs false

variable {g g' : G} {w w' : World} {σ σ' : AST} {P : Program}

theorem setCell_eq {b o : Nat} {c : Array Value} {e : TypeId} {fr : Nat × Nat} (v : Value) (h : w.heap[b]? = some (.cells c e fr)) :
    w.setCell ⟨b, o, none⟩ v = setBlk w b (.cells (c.setIfInBounds o v) e fr) := by
  obtain ⟨hb, hx⟩ := Array.getElem?_eq_some_iff.1 h
  unfold World.setCell setBlk
  congr 1
  apply Array.ext_getElem?
  intro j
  simp only [Array.getElem?_modify, Array.getElem?_setIfInBounds]
  split
  · rename_i e'; subst e'; rw [h]; rfl
  · rfl

theorem setBlk_setBlk (w : World) (b : Nat) (o o' : Obj) : setBlk (setBlk w b o) b o' = setBlk w b o' := by
  unfold setBlk
  simp

theorem setBlk_self {b : Nat} {o : Obj} (h : w.heap[b]? = some o) : setBlk w b o = w := by
  unfold setBlk
  have : w.heap.setIfInBounds b o = w.heap := by
    apply Array.ext_getElem?
    intro j
    rw [Array.getElem?_setIfInBounds]
    split
    · rename_i e; subst e; rw [if_pos (lt_of_blk h), h]
    · rfl
  rw [this]

theorem setCells_eq {b : Nat} {e : TypeId} {fr : Nat × Nat} : ∀ (vs : List Value) (o : Nat) (c : Array Value) (w : World), w.heap[b]? = some (.cells c e fr) → o + vs.length ≤ c.size →
    w.setCells b o vs = setBlk w b (.cells (splice c.toList o vs).toArray e fr)
  | [], o, c, w, h, hle => by
    have : (splice c.toList o []).toArray = c := by simp [splice]
    rw [this, setBlk_self h]; rfl
  | v :: vs, o, c, w, h, hle => by
    simp only [List.length_cons] at hle
    rw [World.setCells, setCell_eq v h, setCells_eq vs (o + 1) (c.setIfInBounds o v) _ (setBlk_same (lt_of_blk h)) (by simp; omega), setBlk_setBlk]
    congr 2
    apply Array.ext'
    apply List.ext_getElem?
    intro j
    simp only []
    rw [splice_get (by simp; omega), splice_get (by simp; omega)]
    simp only [List.length_cons, Array.toList_setIfInBounds, List.getElem?_set]
    by_cases ej : j = o
    · subst ej
      rw [if_neg (by omega), if_pos (by omega)]
      simp; omega
    · by_cases e2 : o + 1 ≤ j ∧ j < o + 1 + vs.length
      · rw [if_pos e2, if_pos (by omega)]
        have : j - o = (j - (o + 1)) + 1 := by omega
        rw [this, List.getElem?_cons_succ]
      · rw [if_neg e2, if_neg (by omega), if_neg (by omega)]

/-- What is appended. -/
theorem elems_run {u e : TypeId} {y : AV} {Y : Value} {ys : List AV} (hy : relV g w y Y) (h : elemsOf P u y = some ys) (hs : ∀ v ∈ ys, v.size = P.cellsOf e) :
    ∃ cy, relEs g w (P.cellsOf e) ys cy ∧ (∀ W, (Builtin.lenOf Y).run P W = .ok ys.length W) ∧ (∀ W : World, W.heap = w.heap → (Builtin.firstCells (P.cellsOf e) ys.length Y).run P W = .ok cy.toArray W) ∧
      (∃ d, P.underlying u = some d ∧ ∀ k, d ≠ .int k) ∧ ys.length ≤ maxL := by
  unfold elemsOf at h
  split at h
  · rename_i tk ys'
    split at h
    · rename_i q hu
      cases h
      obtain ⟨ad, a, c, es, css, rfl, had, hes, hc, hcm, hnone, hmem, _⟩ := relV_slice hy
      by_cases hne : ys = []
      · subst hne
        refine ⟨[], by simp [relEs], fun W => by simp [Builtin.lenOf], fun W hW => ?_, ⟨_, hu, fun k h => by cases h⟩, by simp⟩
        cases ad with
        | none => simp [Builtin.firstCells]
        | some bo => simp [Builtin.firstCells, loadCells, loadCellsFrom]
      · obtain ⟨v, hv⟩ := List.exists_mem_of_ne_nil _ hne
        obtain ⟨j, hj⟩ := List.mem_iff_getElem?.1 hv
        obtain ⟨cx, hcx, hlx, _⟩ := relEs_nth hes hj
        have hee : es = P.cellsOf e := by rw [← hs v hv, ← relC_size hcx, hlx]
        subst hee
        refine ⟨css, hes, fun W => by simp [Builtin.lenOf], fun W hW => ?_, ⟨_, hu, fun k h => by cases h⟩, by omega⟩
        cases a with
        | none => have := hnone rfl; have : ys.length = 0 := by omega
                  exact absurd (List.eq_nil_of_length_eq_zero this) hne
        | some bo =>
          obtain ⟨b, o⟩ := bo
          obtain rfl := had.some
          have hsz := relEs_size hes
          have hcell : ∀ j v, css[j]? = some v → W.cell? ((mkAddr (b, o)).add j) = some v := by
            intro j v hjv
            rcases hmem b o rfl with h0 | ⟨hr, _⟩
            · subst h0; simp at hjv
            · have := rd_cell hr j v hjv
              unfold World.cell? at this ⊢
              rw [hW]; exact this
          exact run_firstCells_some W _ _ _ _ _ css hsz hcell
    · cases h
  · rename_i s
    split at h
    · rename_i hu
      cases h
      obtain ⟨rfl, hlen⟩ := relV_str hy
      have hsz := bytes_size s
      refine ⟨s.map fun b => Value.int .u8 b.toNat, ?_, fun W => by simp [Builtin.lenOf, hsz, u8s], fun W hW => ?_, ⟨_, hu, fun k h => by cases h⟩, by simpa [u8s] using hlen⟩
      · by_cases hne : s = []
        · subst hne; simp [u8s, relEs]
        · have h1 : P.cellsOf e = 1 := by
            cases s with
            | nil => exact absurd rfl hne
            | cons b s => exact (hs _ (by simp [u8s]; exact .inl rfl)).symm
          rw [h1]; exact relEs_u8s s
      · simp only [Builtin.firstCells, Sem.run_pure]
        congr 1
        apply Array.ext'
        have : ByteArray.extract ⟨s.toArray⟩ 0 (u8s s).length = ⟨s.toArray⟩ := by rw [str_extract]; simp [u8s]
        rw [this]; simp
    · cases h
  · cases h

section
variable {ts : Array TypeId} {t u e ty : TypeId} {d : TypeDesc} {i : TypeInfo} (h0 : ts[0]? = some t) (h1 : ts[1]? = some u) (hu : P.underlying t = some (.slice e)) (hd : P.underlying u = some d) (hni : ∀ k, d ≠ .int k)
  (hi : P.info? e = some i)
include h0 h1 hu hd hni hi

theorem run_append_in {a : Option Addr} {n c m : Nat} {Y : Value} {news : List Value} (hl : ∀ W, (Builtin.lenOf Y).run P W = .ok m W) (hf : (Builtin.firstCells (P.cellsOf e) m Y).run P w = .ok news.toArray w) (hfit : n + m ≤ c) :
    (Builtin.append_ ts ty #[.slice a n c, Y]).run P w = (match a with | some a => (storeCells (a.add (n * P.cellsOf e)) news).run P w | none => .ok () w).andThen fun _ w' => .ok (.slice a (n + m) c) w' := by
  have hs : i.size = P.cellsOf e := by simp [Program.cellsOf, hi]
  simp only [Builtin.append_, h0, h1, List.getElem?_toArray, List.getElem?_cons_zero, List.getElem?_cons_succ, Sem.run_bind, run_underlying hu, Result.andThen_ok, sizeOf, typeInfo, run_program, hi, Sem.run_pure, run_underlying hd, hs]
  cases d <;> first
    | (exact absurd rfl (hni _))
    | (simp only [Bool.false_eq_true, if_false, hl, Result.andThen_ok, Sem.run_ite, hfit, if_true, Sem.run_bind, Bool.not_false, hf]
       cases a with
       | none => simp
       | some a => simp)

theorem run_append_out {z : Value} (hz : i.zero = some z) {a : Option Addr} {n c m : Nat} {Y : Value} {olds news : List Value} (hl : ∀ W, (Builtin.lenOf Y).run P W = .ok m W) (hf : (Builtin.firstCells (P.cellsOf e) m Y).run P w.drew = .ok news.toArray w.drew)
    (ho : (Builtin.firstCells (P.cellsOf e) n (.slice a n c)).run P w.drew = .ok olds.toArray w.drew) (hfit : c < n + m) (h63 : n + m ≤ maxL) (h48 : Builtin.nextslicecap (n + m) c * i.bytes ≤ 281474976710656) :
    (Builtin.append_ ts ty #[.slice a n c, Y]).run P w =
      .ok (.slice (some ⟨w.heap.size, 0, none⟩) (n + m) (grownCap w (n + m) c e)) (w.drew.alloc (.cells (olds.toArray ++ news.toArray ++ Builtin.zeroCells z.cells (grownCap w (n + m) c e - (n + m))) e)) := by
  have hs : i.size = P.cellsOf e := by simp [Program.cellsOf, hi]
  have hn : ¬ (n + m ≤ c) := by omega
  have hmax : IntKind.i64.max = 9223372036854775807 := by decide
  unfold maxL at h63
  have h63' : ¬ (9223372036854775807 < ((n : Int) + (m : Int))) := by omega
  have h48' : ¬ (281474976710656 < Builtin.nextslicecap (n + m) c * i.bytes) := by omega
  simp only [Builtin.append_, h0, h1, List.getElem?_toArray, List.getElem?_cons_zero, List.getElem?_cons_succ, Sem.run_bind, run_underlying hu, Result.andThen_ok, sizeOf, typeInfo, run_program, hi, Sem.run_pure, run_underlying hd, hs]
  cases d <;> first
    | (exact absurd rfl (hni _))
    | (simp [hl, hn, h63', h48', hf, ho, Question.forced, zeroValue, typeInfo, hi, hz, newRow, grownCap, hmax]
       congr 2
       apply Array.ext'
       simp [List.append_assoc])

end

theorem relEs_append {es : Nat} : ∀ {xs ys : List AV} {cx cy : List Value}, relEs g w es xs cx → relEs g w es ys cy → relEs g w es (xs ++ ys) (cx ++ cy)
  | [], ys, cx, cy, h1, h2 => by simp only [relEs] at h1; subst h1; simpa using h2
  | x :: xs, ys, cx, cy, h1, h2 => by
    simp only [relEs] at h1
    obtain ⟨c1, c2, rfl, hl, h3, h4⟩ := h1
    simp only [List.cons_append, relEs]
    exact ⟨c1, c2 ++ cy, by simp, hl, h3, relEs_append h4 h2⟩

theorem relEs_es {es es' : Nat} {xs : List AV} {cs : List Value} (h : relEs g w es xs cs) (hs : ∀ v ∈ xs, v.size = es') : relEs g w es' xs cs := by
  cases xs with
  | nil => simpa [relEs] using h
  | cons x xs =>
    simp only [relEs] at h ⊢
    have : es = es' := by
      obtain ⟨c1, c2, _, hl, h3, _⟩ := h
      rw [← hs x (by simp), ← relC_size h3, hl]
    subst this; exact h

/-- A new block for an owner. -/
theorem grow_does (hI : Inv g σ w) {e : TypeId} {xs : List AV} {cells : Array Value} {css : List Value} {n cap es : Nat} (hes : relEs g w es xs css) (hpre : ∀ j, j < css.length → cells[j]? = css[j]?) (hsz : cells.size = cap * es) (hn : xs.length ≤ cap) (hcap : cap ≤ maxL)
    (toks' : List TokE) (σ' : AST) (hobjs : σ'.objs = σ.objs) (k : Nat) (hk : k ≤ g.toks.length)
    (htoks : (k = g.toks.length ∧ toks' = g.toks ++ [⟨some (w.heap.size, 0), xs.length, cap, es⟩] ∧ σ'.toks = σ.toks ++ [(xs.length, es)]) ∨
      (∃ e0, g.toks[k]? = some e0 ∧ e0.es = es ∧ e0.len < xs.length ∧ toks' = g.toks.set k ⟨some (w.heap.size, 0), xs.length, cap, es⟩ ∧ σ'.toks = σ.toks.set k (xs.length, es))) :
    ∃ g', Ev g w g' (w.drew.alloc (.cells cells e)) ∧ Inv g' σ' (w.drew.alloc (.cells cells e)) ∧ relC g' (w.drew.alloc (.cells cells e)) (.slice (.own k) xs) [.slice (some ⟨w.heap.size, 0, none⟩) xs.length cap] := by
  have hcs := relEs_size hes
  have hle : xs.length * es ≤ cells.size := by rw [hsz]; exact Nat.mul_le_mul_right _ hn
  have hfresh := lim_fresh hI
  let new : TokE := ⟨some (w.heap.size, 0), xs.length, cap, es⟩
  -- every owner, elder or new
  have getk : toks'[k]? = some new := by
    rcases htoks with ⟨rfl, rfl, _⟩ | ⟨e0, h0, _, _, rfl, _⟩
    · simp [new]
    · rw [List.getElem?_set]; simp [(List.getElem?_eq_some_iff.1 h0).1, new]
  have cases_ : ∀ (t : Nat) (q : TokE), toks'[t]? = some q → (t = k ∧ q = new) ∨ (t ≠ k ∧ g.toks[t]? = some q) := by
    intro t q hq
    by_cases e : t = k
    · subst e; rw [getk] at hq; cases hq; exact .inl ⟨rfl, rfl⟩
    · right
      refine ⟨e, ?_⟩
      rcases htoks with ⟨rfl, rfl, _⟩ | ⟨e0, h0, _, _, rfl, _⟩
      · rw [List.getElem?_append] at hq
        split at hq
        · exact hq
        · rename_i hlt
          have : t - g.toks.length ≠ 0 := by omega
          rw [List.getElem?_eq_none (by simp; omega)] at hq; cases hq
      · rw [List.getElem?_set] at hq
        rw [if_neg (fun h => e h.symm)] at hq; exact hq
  have sigk : ∀ (t : Nat), t ≠ k → ∀ q, σ.toks[t]? = some q → σ'.toks[t]? = some q := by
    intro t ht q hq
    rcases htoks with ⟨rfl, _, h⟩ | ⟨e0, h0, _, _, _, h⟩
    · rw [h]; exact getElem?_append_some hq
    · rw [h, List.getElem?_set, if_neg (fun h => ht h.symm)]; exact hq
  have sigkk : σ'.toks[k]? = some (xs.length, es) := by
    rcases htoks with ⟨rfl, _, h⟩ | ⟨e0, h0, _, _, _, h⟩
    · rw [h, ← hI.ntok]; simp
    · rw [h, List.getElem?_set]
      have : k < σ.toks.length := by rw [hI.ntok]; exact (List.getElem?_eq_some_iff.1 h0).1
      simp [this]
  have nlen : σ'.toks.length = toks'.length := by
    rcases htoks with ⟨rfl, h1, h2⟩ | ⟨e0, h0, _, _, h1, h2⟩
    · rw [h1, h2]; simp [hI.ntok]
    · rw [h1, h2]; simp [hI.ntok]
  let g' : G := { g with lim := fun b => if b = w.heap.size then some (xs.length * es) else g.lim b, toks := toks' }
  have hlim : ∀ b L, g.lim b = some L → g'.lim b = some L := by
    intro b L h
    show (if b = w.heap.size then _ else g.lim b) = _
    rw [if_neg (by rintro rfl; rw [hfresh] at h; cases h)]; exact h
  have hE : Ev g w g' (w.drew.alloc (.cells cells e)) := by
    have := ev_alloc (w := w.drew) (inv_drew hI) (.cells cells e) g.objs g'.lim toks' (fun i x h => h) hlim (by
      intro t q hq
      by_cases ek : t = k
      · subst ek
        refine ⟨new, getk, ?_⟩
        rcases htoks with ⟨rfl, _, _⟩ | ⟨e0, h0, hes0, hlt, _, _⟩
        · rw [List.getElem?_eq_none (by omega)] at hq; cases hq
        · rw [h0] at hq; cases hq
          exact ⟨hes0.symm, Nat.le_of_lt hlt, fun h => absurd h (by show xs.length ≠ _; omega), .inr fun b o hb => by
            have hb : some (w.heap.size, 0) = some (b, o) := hb
            simp only [Option.some.injEq, Prod.mk.injEq] at hb
            rw [← hb.1]; exact ⟨Nat.le_refl _, hb.2.symm⟩⟩
      · refine ⟨q, ?_, rfl, Nat.le_refl _, fun _ => rfl, .inl rfl⟩
        rcases htoks with ⟨rfl, rfl, _⟩ | ⟨e0, h0, _, _, rfl, _⟩
        · exact getElem?_append_some hq
        · rw [List.getElem?_set, if_neg (fun h => ek h.symm)]; exact hq)
    exact (ev_drew g w).trans this
  have hnew : (w.drew.alloc (.cells cells e)).heap[w.heap.size]? = some (.cells cells e) := by rw [← World.size_drew]; exact alloc_new
  have hold : ∀ b, b < w.heap.size → (w.drew.alloc (.cells cells e)).heap[b]? = w.heap[b]? := fun b hb => alloc_old (w := w.drew) (by simpa using hb)
  refine ⟨g', hE, ?_, ?_⟩
  · refine { base := Nat.le_trans hI.base hE.size, nobj := by rw [hobjs]; exact hI.nobj, obj := ?_, inj := by rw [hobjs]; exact hI.inj, rows := ?_, ntok := nlen, tok := ?_, tinj := ?_ }
    · intro j q hq hql
      rw [hobjs] at hq
      obtain ⟨b2, sh2, h2, hb2, hl2, hin2⟩ := hI.obj j q hq hql
      have hlt := objs_lt hI hq hql h2
      exact ⟨b2, sh2, h2, hb2, by show (if b2 = w.heap.size then _ else g.lim b2) = _; rw [if_neg (by omega)]; exact hl2, objIn_mono hE (hold _ hlt) hin2⟩
    · intro b L hb
      by_cases eb : b = w.heap.size
      · subst eb
        have : L = xs.length * es := by
          have h : (if w.heap.size = w.heap.size then some (xs.length * es) else g.lim w.heap.size) = some L := hb
          simp at h; exact h.symm
        subst this
        exact ⟨hI.base, cells, e, (0, 0), hnew, hle, .inl rfl⟩
      · have h : (if b = w.heap.size then some (xs.length * es) else g.lim b) = some L := hb
        rw [if_neg eb] at h
        obtain ⟨h1, c', e', fr', hc, hL⟩ := hI.rows b L h
        exact ⟨h1, c', e', fr', by rw [hold _ (lt_of_blk hc)]; exact hc, hL⟩
    · intro t q hq
      rcases cases_ t q hq with ⟨rfl, rfl⟩ | ⟨hne, hq'⟩
      · refine ⟨sigkk, hn, hcap, (fun h => by cases h), fun b o hbo hlt => ?_⟩
        simp only [new, Option.some.injEq, Prod.mk.injEq] at hbo
        obtain ⟨rfl, rfl⟩ := hbo
        exact ⟨by show (if w.heap.size = w.heap.size then _ else _) = _; simp [new], cells, e, (0, 0), hnew, by simp [new, hsz], .inl rfl⟩
      · obtain ⟨h1, h2, h3, h4, h5⟩ := hI.tok t q hq'
        refine ⟨sigk t hne _ h1, h2, h3, h4, fun b o ha hlt => ?_⟩
        obtain ⟨hl2, c', el, fr', hc, hsz', hfr⟩ := h5 b o ha hlt
        exact ⟨hlim _ _ hl2, c', el, fr', by rw [hold _ (lt_of_blk hc)]; exact hc, hsz', hfr⟩
    · intro t u q q' b o o' ht hu ha ha' hl hl'
      rcases cases_ t q ht with ⟨rfl, rfl⟩ | ⟨hne, h⟩ <;> rcases cases_ u q' hu with ⟨rfl, rfl⟩ | ⟨hne', h'⟩
      · rfl
      · obtain ⟨_, _, _, _, h5⟩ := hI.tok u q' h'
        obtain ⟨_, c', el, fr', hc, _⟩ := h5 b o' ha' hl'
        simp only [new, Option.some.injEq, Prod.mk.injEq] at ha
        have := lt_of_blk hc; omega
      · obtain ⟨_, _, _, _, h5⟩ := hI.tok t q h
        obtain ⟨_, c', el, fr', hc, _⟩ := h5 b o ha hl
        simp only [new, Option.some.injEq, Prod.mk.injEq] at ha'
        have := lt_of_blk hc; omega
      · exact hI.tinj t u q q' b o o' h h' ha ha' hl hl'
  · simp only [relC]
    refine ⟨some (mkAddr (w.heap.size, 0)), some (w.heap.size, 0), cap, es, css, rfl, .inl rfl, relEs_mono hE hes, hn, hcap, (fun h => by cases h), (fun b o hbo => .inr ?_), new, getk, Nat.le_refl _, fun _ => ⟨rfl, rfl⟩, .inr rfl⟩
    simp only [Option.some.injEq, Prod.mk.injEq] at hbo
    obtain ⟨rfl, rfl⟩ := hbo
    exact ⟨⟨cells, e, (0, 0), hnew, fun j hj => by rw [Nat.zero_add]; exact hpre j hj⟩, .inr ⟨xs.length * es, by show (if w.heap.size = w.heap.size then _ else _) = _; simp, by rw [hcs]; omega⟩⟩

end Go.Aff

/- What operations do, soundly (9): append, all cases. -/
namespace Go.Aff
set_option linter.unusedVariables false
set_option linter.unusedSimpArgs false

variable {g g' : G} {w w' : World} {σ σ' : AST} {P : Program}

/-- An owner appends in its own room. -/
theorem inplace_does (hI : Inv g σ w) {k b o n c es : Nat} {ys : List AV} {cy : List Value} (hk : g.toks[k]? = some ⟨some (b, o), n, c, es⟩) (hy : relEs g w es ys cy) (hm : 0 < ys.length) (hfit : n + ys.length ≤ c)
    (h1 : ∀ v ∈ cy, v.oneCell' = true) :
    ∃ g' w', (storeCells (⟨b, o + n * es, none⟩ : Addr) cy).run P w = .ok () w' ∧ Ev g w g' w' ∧ Inv g' (σ.setTok k (n + ys.length) es) w' ∧
      (∀ xs cx, xs.length = n → relEs g w es xs cx → (cx = [] ∨ rd w b o cx) → relC g' w' (.slice (.own k) (xs ++ ys)) [.slice (some ⟨b, o, none⟩) (n + ys.length) c]) := by
  obtain ⟨hs1, hs2, hs3, hs4, hs5⟩ := hI.tok k _ hk
  obtain ⟨hlim, cur, el, fr, hc, hsz, hfr⟩ := hs5 b o rfl (by show n < c; omega)
  simp only at hlim hsz hs1
  have hcy := relEs_size hy
  have hroom : o + n * es + cy.length ≤ cur.size := by
    have : (n + ys.length) * es ≤ c * es := Nat.mul_le_mul_right _ hfit
    rw [Nat.add_mul] at this
    rw [hcy]; omega
  have hbase := (hI.rows b _ hlim).1
  have hst := run_storeCells_cells (P := P) b (o + n * es) cy 0 w (fun j hj => by simp [World.cell?, hc]; omega) (fun j hj => by
    have : ¬ (fr.1 ≤ o + n * es + 0 + j ∧ o + n * es + 0 + j < fr.2) := by omega
    simp only [World.frozen?, hc]
    simpa using this) h1
  simp only [Nat.add_zero] at hst
  rw [setCells_eq cy (o + n * es) cur w hc hroom] at hst
  let new : Array Value := (splice cur.toList (o + n * es) cy).toArray
  have hnewsz : new.size = cur.size := by
    show (splice cur.toList (o + n * es) cy).toArray.size = _
    rw [List.size_toArray, splice_length (by simpa using hroom)]; simp
  have hget : ∀ j, new[j]? = if o + n * es ≤ j ∧ j < o + n * es + cy.length then cy[j - (o + n * es)]? else cur[j]? := by
    intro j
    show (splice cur.toList (o + n * es) cy).toArray[j]? = _
    rw [List.getElem?_toArray, splice_get (by simpa using hroom)]; simp
  let e1 : TokE := ⟨some (b, o), n + ys.length, c, es⟩
  let g' : G := { g with lim := fun x => if x = b then some (o + (n + ys.length) * es) else g.lim x, toks := g.toks.set k e1 }
  have hklt : k < g.toks.length := (List.getElem?_eq_some_iff.1 hk).1
  have getk : g'.toks[k]? = some e1 := by show (g.toks.set k e1)[k]? = _; rw [List.getElem?_set]; simp [hklt]
  have geto : ∀ (t : Nat), t ≠ k → g'.toks[t]? = g.toks[t]? := by
    intro t ht
    show (g.toks.set k e1)[t]? = _
    rw [List.getElem?_set, if_neg (fun h => ht h.symm)]
  have hW : ∀ x, x ≠ b → (setBlk w b (.cells new el fr)).heap[x]? = w.heap[x]? := fun x hx => setBlk_other hx
  have hWb : (setBlk w b (.cells new el fr)).heap[b]? = some (.cells new el fr) := setBlk_same (lt_of_blk hc)
  have hL : o + n * es ≤ o + (n + ys.length) * es := by rw [Nat.add_mul]; omega
  have hE : Ev g w g' (setBlk w b (.cells new el fr)) := by
    refine ⟨rfl, rfl, rfl, by simp [setBlk], rfl, fun x hx => hW x (by omega), fun i x h => h, ?_, ?_⟩
    · intro x L hx
      by_cases ex : x = b
      · subst ex
        rw [hlim] at hx; cases hx
        refine ⟨⟨_, by show (if x = x then _ else _) = _; rw [if_pos rfl], hL⟩, fun c' e' fr' hc' => ?_⟩
        rw [hc] at hc'; cases hc'
        exact ⟨new, el, fr, hWb, fun j hj => by rw [hget, if_neg (by omega)]⟩
      · exact ⟨⟨L, by show (if x = b then _ else _) = _; rw [if_neg ex]; exact hx, Nat.le_refl _⟩, fun c' e' fr' hc' => ⟨c', e', fr', by rw [hW x ex]; exact hc', fun _ _ => rfl⟩⟩
    · intro t q hq
      by_cases et : t = k
      · subst et; rw [hk] at hq; cases hq
        exact ⟨e1, getk, rfl, by show n ≤ n + ys.length; omega, fun h => by have : n + ys.length = n := h; omega, .inl rfl⟩
      · exact ⟨q, by rw [geto t et]; exact hq, rfl, Nat.le_refl _, fun _ => rfl, .inl rfl⟩
  refine ⟨g', _, hst, hE, ?_, ?_⟩
  · refine { base := Nat.le_trans hI.base hE.size, nobj := hI.nobj, obj := ?_, inj := hI.inj, rows := ?_, ntok := by simp [AST.setTok, g', hI.ntok], tok := ?_, tinj := ?_ }
    · intro j q hq hql
      obtain ⟨b2, sh2, h2, hb2, hl2, hin2⟩ := hI.obj j q hq hql
      have hne : b2 ≠ b := by rintro rfl; rw [hlim] at hl2; cases hl2
      exact ⟨b2, sh2, h2, hb2, by show (if b2 = b then _ else _) = _; rw [if_neg hne]; exact hl2, objIn_mono hE (hW _ hne) hin2⟩
    · intro x L hx
      by_cases ex : x = b
      · subst ex
        have : L = o + (n + ys.length) * es := by
          have h : (if x = x then some (o + (n + ys.length) * es) else g.lim x) = some L := hx
          simp at h; exact h.symm
        subst this
        refine ⟨hbase, new, el, fr, hWb, ?_, by rw [hnewsz]; exact hfr⟩
        rw [hnewsz]
        have : (n + ys.length) * es ≤ c * es := Nat.mul_le_mul_right _ hfit
        omega
      · have h : (if x = b then some (o + (n + ys.length) * es) else g.lim x) = some L := hx
        rw [if_neg ex] at h
        obtain ⟨p1, c', e', fr', hc', hL'⟩ := hI.rows x L h
        exact ⟨p1, c', e', fr', by rw [hW x ex]; exact hc', hL'⟩
    · intro t q hq
      by_cases et : t = k
      · subst et
        rw [getk] at hq; cases hq
        refine ⟨by simp [AST.setTok, e1, hI.ntok, hklt], hfit, hs3, (fun h => by cases h), fun b' o' hbo hlt => ?_⟩
        simp only [e1, Option.some.injEq, Prod.mk.injEq] at hbo
        obtain ⟨rfl, rfl⟩ := hbo
        refine ⟨by show (if b = b then _ else _) = _; rw [if_pos rfl], new, el, fr, hWb, by rw [hnewsz]; exact hsz, by rw [hnewsz]; exact hfr⟩
      · rw [geto t et] at hq
        obtain ⟨p1, p2, p3, p4, p5⟩ := hI.tok t q hq
        refine ⟨by simp only [AST.setTok]; rw [List.getElem?_set, if_neg (fun h => et h.symm)]; exact p1, p2, p3, p4, fun b' o' hbo hlt => ?_⟩
        obtain ⟨l2, c', e', fr', hc', hsz', hfr'⟩ := p5 b' o' hbo hlt
        have hne : b' ≠ b := by
          rintro rfl
          exact et (hI.tinj t k q _ b' o' o hq hk hbo rfl hlt (by show n < c; omega))
        exact ⟨by show (if b' = b then _ else _) = _; rw [if_neg hne]; exact l2, c', e', fr', by rw [hW b' hne]; exact hc', hsz', hfr'⟩
    · intro t u q q' x o1 o2 ht hu ha ha' hl hl'
      have conv : ∀ (t : Nat) (q : TokE), g'.toks[t]? = some q → q.a = some (x, o1) ∨ q.a = some (x, o2) → q.len < q.cap → ∃ q0, g.toks[t]? = some q0 ∧ q0.len < q0.cap ∧ q0.a = q.a := by
        intro t q hq _ hlt
        by_cases et : t = k
        · subst et; rw [getk] at hq; cases hq; exact ⟨_, hk, by show n < c; omega, rfl⟩
        · rw [geto t et] at hq; exact ⟨q, hq, hlt, rfl⟩
      obtain ⟨q0, hq0, hlt0, ha0⟩ := conv t q ht (.inl ha) hl
      obtain ⟨q1, hq1, hlt1, ha1⟩ := conv u q' hu (.inr ha') hl'
      exact hI.tinj t u q0 q1 x o1 o2 hq0 hq1 (by rw [ha0]; exact ha) (by rw [ha1]; exact ha') hlt0 hlt1
  · intro xs cx hxl hxs hrd
    have hcx := relEs_size hxs
    rw [hxl] at hcx
    have hall := relEs_append hxs hy
    simp only [relC]
    refine ⟨some (mkAddr (b, o)), some (b, o), c, es, cx ++ cy, by simp [mkAddr, hxl], .inl rfl, relEs_mono hE hall, by simp [hxl]; omega, hs3, (fun h => by cases h), (fun b' o' hbo => .inr ?_), e1, getk, by simp [e1, hxl], fun _ => ⟨rfl, rfl⟩, .inr rfl⟩
    simp only [Option.some.injEq, Prod.mk.injEq] at hbo
    obtain ⟨rfl, rfl⟩ := hbo
    refine ⟨⟨new, el, fr, hWb, fun j hj => ?_⟩, .inr ⟨o + (n + ys.length) * es, by show (if b = b then _ else _) = _; rw [if_pos rfl], by rw [List.length_append, hcx, hcy, Nat.add_mul]; omega⟩⟩
    rw [hget]
    rw [List.length_append, hcx] at hj
    by_cases hj1 : j < n * es
    · rw [if_neg (by omega), List.getElem?_append_left (by omega)]
      rcases hrd with rfl | ⟨c', e', fr', hc', hj'⟩
      · simp at hcx; omega
      · rw [hc] at hc'; cases hc'
        exact hj' j (by omega)
    · rw [if_pos (by omega), List.getElem?_append_right (by omega), hcx]
      congr 1; omega

theorem setTok_self {k n es : Nat} (h : σ.toks[k]? = some (n, es)) : σ.setTok k n es = σ := by
  unfold AST.setTok
  have : σ.toks.set k (n, es) = σ.toks := by
    apply List.ext_getElem?
    intro j
    rw [List.getElem?_set]
    split
    · rename_i e; subst e; rw [if_pos (List.getElem?_eq_some_iff.1 h).1, h]
    · rfl
  rw [this]

theorem append_does0 (hI : Inv g σ w) {ts : Array TypeId} {ty : TypeId} {s x : AV} {S X : Value} {K : AV → AST → Prop} (hs : relV g w s S) (hx : relV g w x X) (h : appendW0 P ts s x σ K) : Does P g w (Builtin.append_ ts ty #[S, X]) K := by
  obtain ⟨t, u, e, xs, tk, ys, h0, h1, hu, rfl, hel, ⟨z, hz⟩, hys, hb47, hmaxl, htk⟩ := h
  obtain ⟨i, zv, hi, hzv, hzc, _, _⟩ := hz
  have hbytes : i.bytes = P.bytesOf e := by simp [Program.bytesOf, hi]
  have hcells : i.size = P.cellsOf e := by simp [Program.cellsOf, hi]
  obtain ⟨ad, a, c, es, css, rfl, had, hes, hc, hcm, hnone, hmem, htok⟩ := relV_slice hs
  obtain ⟨cy, hcy, hlen, hfirst, ⟨d, hd, hni⟩, _⟩ := elems_run hx hel hys
  have hcyone : ∀ v ∈ cy, v.oneCell' = true := by
    have gen : ∀ {ps : List AV} {cs : List Value} {q : Nat}, relEs g w q ps cs → ∀ v ∈ cs, v.oneCell' = true := by
      intro ps
      induction ps with
      | nil => intro cs q h; simp only [relEs] at h; subst h; simp
      | cons p ps ih =>
        intro cs q h
        simp only [relEs] at h
        obtain ⟨c1, c2, rfl, _, h3, h4⟩ := h
        intro v hv
        rcases List.mem_append.1 hv with hv | hv
        · exact relC_cell1 h3 v hv
        · exact ih h4 v hv
    exact gen hcy
  -- what stands in the old slice
  have hold : ∀ {W : World}, W.heap = w.heap → relEs g w (P.cellsOf e) xs css → (Builtin.firstCells (P.cellsOf e) xs.length (.slice ad xs.length c)).run P W = .ok css.toArray W := by
    intro W hW hes'
    have hsz := relEs_size hes'
    cases a with
    | none =>
      have hx0 : xs.length = 0 := by have := hnone rfl; omega
      have : css = [] := List.eq_nil_of_length_eq_zero (by rw [hsz, hx0]; simp)
      subst this
      rw [hx0]
      cases ad with
      | none => simp [Builtin.firstCells]
      | some ad => simp [Builtin.firstCells, loadCells, loadCellsFrom]
    | some bo =>
      obtain ⟨b, o⟩ := bo
      obtain rfl := had.some
      refine run_firstCells_some W _ _ _ _ _ css hsz fun j v hjv => ?_
      rcases hmem b o rfl with h0 | ⟨hr, _⟩
      · subst h0; simp at hjv
      · have := rd_cell hr j v hjv
        unfold World.cell? at this ⊢
        rw [hW]; exact this
  have grow : ∀ (σ1 : AST) (k : Nat) (toks' : List TokE), relEs g w (P.cellsOf e) xs css → c < xs.length + ys.length → σ1.objs = σ.objs → k ≤ g.toks.length →
      (∀ cap, cap ≤ maxL → ∃ toks', ((k = g.toks.length ∧ toks' = g.toks ++ [⟨some (w.heap.size, 0), (xs ++ ys).length, cap, P.cellsOf e⟩] ∧ σ1.toks = σ.toks ++ [((xs ++ ys).length, P.cellsOf e)]) ∨
        (∃ e0, g.toks[k]? = some e0 ∧ e0.es = P.cellsOf e ∧ e0.len < (xs ++ ys).length ∧ toks' = g.toks.set k ⟨some (w.heap.size, 0), (xs ++ ys).length, cap, P.cellsOf e⟩ ∧ σ1.toks = σ.toks.set k ((xs ++ ys).length, P.cellsOf e)))) →
      K (.slice (.own k) (xs ++ ys)) σ1 → Does P g w (Builtin.append_ ts ty #[.slice ad xs.length c, X]) K := by
    intro σ1 k _ hes' hfit hobj hk htoks hK
    have h48 : Builtin.nextslicecap (xs.length + ys.length) c * i.bytes ≤ 281474976710656 := growslice_fits hfit (by rw [hbytes]; exact hb47)
    have hrun := run_append_out (w := w) (ty := ty) (a := ad) h0 h1 hu hd hni hi hzv hlen (hfirst w.drew rfl) (hold (W := w.drew) rfl hes') hfit hmaxl h48
    have hcap := grownCap_le (w := w) (need := xs.length + ys.length) (old := c) (e := e) hmaxl
    obtain ⟨toks', ht⟩ := htoks _ hcap.2
    have hall := relEs_append hes' hcy
    have hsz := relEs_size hall
    have hzsz : zv.cells.size = P.cellsOf e := by
      have := relC_size (conc_rel g w hzc)
      have h2 : i.size = z.size := by assumption
      rw [← hcells, h2, ← this]; simp
    obtain ⟨g1, hE, hI1, hr⟩ := grow_does (e := e) (xs := xs ++ ys) (cells := css.toArray ++ cy.toArray ++ Builtin.zeroCells zv.cells (grownCap w (xs.length + ys.length) c e - (xs.length + ys.length))) (css := css ++ cy) (cap := grownCap w (xs.length + ys.length) c e) (n := 0) hI hall
      (fun j hj => by rw [← Array.getElem?_toList]; simp only [Array.toList_append]; rw [List.getElem?_append_left hj])
      (by
        rw [List.length_append, List.length_append] at hsz
        simp only [Array.size_append, List.size_toArray, Builtin.zeroCells, Array.size_map, Array.size_range, hzsz]
        rw [hsz, ← Nat.add_mul]; congr 1; omega)
      (by simpa using hcap.1) hcap.2 toks' σ1 hobj k hk ht
    refine ⟨_, _, g1, .slice (.own k) (xs ++ ys), σ1, hrun, hE, hI1, relV_of ?_ rfl, hK⟩
    simpa [Value.cells] using hr
  have hinplace_run : ∀ {w1 : World}, xs.length + ys.length ≤ c → (match ad with | some a => (storeCells (a.add (xs.length * P.cellsOf e)) cy).run P w | none => .ok () w) = .ok () w1 →
      (Builtin.append_ ts ty #[.slice ad xs.length c, X]).run P w = .ok (.slice ad (xs.length + ys.length) c) w1 := by
    intro w1 hfit hst
    rw [run_append_in (w := w) (ty := ty) (a := ad) h0 h1 hu hd hni hi hlen (hfirst w rfl) hfit]
    cases ad with
    | none => simp only at hst ⊢; cases hst; rfl
    | some bo => simp only at hst ⊢; rw [hst]; rfl
  cases tk with
  | none => exact htk.elim
  | lit => exact htk.elim
  | full =>
    obtain ⟨hsx, hK⟩ := htk
    have hes' := relEs_es hes hsx
    simp only [tkOk] at htok
    by_cases hy0 : ys = []
    · subst hy0
      have hcy0 : cy = [] := by simpa [relEs] using hcy
      subst hcy0
      have hrun := hinplace_run (w1 := w) (by simp; omega) (by cases ad <;> rfl)
      obtain ⟨hE, hI1⟩ := inv_tok hI ⟨a, xs.length, c, P.cellsOf e⟩ (by show xs.length ≤ c; omega) hcm hnone (fun b o hbo hlt => by have : xs.length < c := hlt; omega)
      refine ⟨_, w, _, .slice (.own σ.toks.length) (xs ++ []), _, hrun, hE, hI1, relV_of ?_ rfl, by simpa using hK⟩
      simp only [relC, Value.cells, List.append_nil]
      exact ⟨ad, a, c, P.cellsOf e, css, by simp, had, relEs_mono hE hes', hc, hcm, hnone, fun b o hbo => (hmem b o hbo).imp id (fun ⟨p, q⟩ => rd_mono hE p q), ⟨a, xs.length, c, P.cellsOf e⟩, by rw [hI.ntok]; simp, Nat.le_refl _, fun _ => ⟨rfl, rfl⟩, .inr rfl⟩
    · have hpos : 0 < ys.length := by cases ys with | nil => exact absurd rfl hy0 | cons y ys => simp
      refine grow (σ.tok (xs.length + ys.length) (P.cellsOf e)) σ.toks.length [] hes' (by omega) rfl (by rw [hI.ntok]; exact Nat.le_refl _) (fun cap _ => ⟨_, .inl ⟨hI.ntok, rfl, by simp [AST.tok]⟩⟩) hK
  | own k =>
    obtain ⟨hσk, hK⟩ := htk
    obtain ⟨e0, he0, hle0, heq0, hes0⟩ := htok
    obtain ⟨q1, q2, q3, q4, q5⟩ := hI.tok k e0 he0
    rw [hσk] at q1
    simp only [Option.some.injEq, Prod.mk.injEq] at q1
    obtain ⟨ql, qe⟩ := q1
    obtain ⟨ha0, hc0⟩ := heq0 ql
    have hes' : relEs g w (P.cellsOf e) xs css := by
      rcases hes0 with h | h
      · have : xs = [] := List.eq_nil_of_length_eq_zero h
        subst this; simpa [relEs] using hes
      · rw [← qe] at h; rw [← h]; exact hes
    by_cases hy0 : ys = []
    · subst hy0
      have hcy0 : cy = [] := by simpa [relEs] using hcy
      subst hcy0
      have hrun := hinplace_run (w1 := w) (by simp; omega) (by cases ad <;> rfl)
      simp only [List.length_nil, Nat.add_zero, List.append_nil] at hK hrun
      rw [setTok_self hσk] at hK
      exact Does.pure hI hrun hs hK
    · have hpos : 0 < ys.length := by cases ys with | nil => exact absurd rfl hy0 | cons y ys => simp
      by_cases hfit : xs.length + ys.length ≤ c
      · cases a with
        | none => have := hnone rfl; omega
        | some bo =>
          obtain ⟨b, o⟩ := bo
          obtain rfl := had.some
          have hk' : g.toks[k]? = some ⟨some (b, o), xs.length, c, P.cellsOf e⟩ := by
            rw [he0]; congr 1
            cases e0; simp_all
          obtain ⟨g1, w1, hst, hE, hI1, hr⟩ := inplace_does (P := P) hI hk' hcy hpos hfit hcyone
          have hrun := hinplace_run (w1 := w1) hfit (by simp only [mkAddr, mk_add]; exact hst)
          refine ⟨_, w1, g1, .slice (.own k) (xs ++ ys), _, hrun, hE, hI1, relV_of ?_ rfl, hK⟩
          have := hr xs css rfl hes' ((hmem b o rfl).imp id (fun h => h.1))
          simpa [Value.cells, mkAddr] using this
      · refine grow (σ.setTok k (xs.length + ys.length) (P.cellsOf e)) k [] hes' (by omega) rfl (Nat.le_of_lt (List.getElem?_eq_some_iff.1 he0).1) (fun cap _ => ⟨_, .inr ⟨e0, he0, qe.symm, by simp; omega, rfl, by simp [AST.setTok]⟩⟩) hK

/-- What a pinned block holds is turned. -/
theorem inv_pin (hI : Inv g σ w) {i l : Nat} {o o' : Obj} {vs : List AV} {xs : List Value} (hi : σ.objs[i]? = some (.pin l o vs xs)) :
    w.heap[l]? = some o ∧ Ev g w g (w.putObj l o') ∧ Inv g (σ.set i (.pin l o' vs xs)) (w.putObj l o') := by
  obtain ⟨b, sh, hg, hb, hl, rfl, ho, hr⟩ := hI.obj i _ hi rfl
  have hlt := lt_of_blk ho
  have h := inv_setObj (o' := .pin b o' vs xs) (B := o') hI hi rfl hg ⟨rfl, setBlk_same hlt, fun i v x h1 h2 => (hr i v x h1 h2).imp id fun ⟨a, b⟩ => ⟨relC_mono (ev_obj hI hb hl) a, b⟩⟩
  exact ⟨ho, h⟩
theorem inv_pin_heap (hI : Inv g σ w) {i l : Nat} {o : Obj} {vs : List AV} {xs : List Value} (hi : σ.objs[i]? = some (.pin l o vs xs)) :
    w.heap[l]? = some o ∧ ∀ (i : Nat) v x, vs[i]? = some v → xs[i]? = some x → v = .undef ∨ (relC g w v x.cells.toList ∧ v.isAgg = vAgg x) := by
  obtain ⟨b, sh, hg, hb, hl, rfl, ho, hr⟩ := hI.obj i _ hi rfl
  exact ⟨ho, hr⟩
theorem inv_pushPin (hI : Inv g σ w) {o : Obj} {vs : List AV} {xs : List Value} (h : ∀ (i : Nat) v x, vs[i]? = some v → xs[i]? = some x → v = .undef ∨ (relC g w v x.cells.toList ∧ v.isAgg = vAgg x)) :
    ∃ g', Ev g w g' (w.alloc o) ∧ Inv g' (σ.push (.pin w.heap.size o vs xs)) (w.alloc o) :=
  ⟨_, inv_push (sh := .leaf) hI fun g' hE => ⟨rfl, alloc_new, fun i v x h1 h2 => (h i v x h1 h2).imp id fun ⟨a, b⟩ => ⟨relC_mono hE a, b⟩⟩⟩

theorem relV_lit {x S : Value} (hs : relV g w (.lit x) S) : S = x := by
  rcases hs with h | ⟨_, _, h, _⟩ | ⟨h, hag⟩
  · cases h
  · cases h
  · simp only [relC] at h
    obtain ⟨h, _⟩ := h
    cases S <;> first | (cases hag; done) | (simp only [Value.cells] at h; simpa using h)
theorem appendL_does (hI : Inv g σ w) {ts : Array TypeId} {ty : TypeId} {s x : AV} {S X : Value} {K : AV → AST → Prop} (hs : relV g w s S) (hx : relV g w x X) (h : appendL P ts s x σ K) : Does P g w (Builtin.append_ ts ty #[S, X]) K := by
  obtain ⟨t, u, e, y, h0, h1, hu, hel, ⟨z, hz, hz1⟩, h⟩ := h
  obtain ⟨i, zv, hi, hzv, hzc, _, hisz⟩ := hz
  have hbytes : i.bytes = P.bytesOf e := by simp [Program.bytesOf, hi]
  have hcells : P.cellsOf e = 1 := by simp [Program.cellsOf, hi, hisz, hz1]
  have hzsz : zv.cells.size = 1 := by
    have := relC_size (conc_rel g w hzc)
    rw [hz1] at this; simpa using this
  obtain ⟨cy, hcy, hlen, hfirst, ⟨d, hd, hni⟩, _⟩ := elems_run hx hel (by intro v hv; simp at hv; subst hv; rw [hcells]; rfl)
  have hcy1 : cy = [.int .i64 y] := by
    simp only [relEs, relC] at hcy; obtain ⟨c1, c2, rfl, _, rfl, rfl⟩ := hcy; rfl
  subst hcy1
  simp only [List.length_singleton] at hlen hfirst
  cases s with
  | slice tk xs =>
    cases tk with
    | full =>
      obtain ⟨rfl, hb47, hK⟩ := h
      obtain ⟨ad, a, c, es, css, rfl, had, hes, hc, hcm, hnone, hmem, htok⟩ := relV_slice hs
      simp only [tkOk, List.length_nil] at htok
      subst htok
      have h48 : Builtin.nextslicecap (0 + 1) 0 * i.bytes ≤ 281474976710656 := growslice_fits (by omega) (by rw [hbytes]; omega)
      have ho : (Builtin.firstCells (P.cellsOf e) 0 (.slice ad 0 0)).run P w.drew = .ok (([] : List Value).toArray) w.drew := by
        cases ad with
        | none => simp [Builtin.firstCells]
        | some ad => simp [Builtin.firstCells, loadCells, loadCellsFrom]
      have hrun := run_append_out (w := w) (ty := ty) (a := ad) h0 h1 hu hd hni hi hzv hlen (hfirst w.drew rfl) ho (show 0 < 0 + 1 by omega) (by unfold maxL; omega) h48
      have hcap := grownCap_le (w := w) (need := 0 + 1) (old := 0) (e := e) (by unfold maxL; omega)
      obtain ⟨g', hE, hI'⟩ := inv_pushPin (inv_drew hI) (o := .cells (([] : List Value).toArray ++ [Value.int .i64 y].toArray ++ Builtin.zeroCells zv.cells (grownCap w (0 + 1) 0 e - (0 + 1))) e) (vs := []) (xs := []) (by intro i v x h; simp at h)
      refine ⟨_, _, g', .lit (.slice (some ⟨w.heap.size, 0, none⟩) 1 (grownCap w (0 + 1) 0 e)), _, hrun, (ev_drew g w).trans hE, hI', relV_of ?_ rfl, hK w.drew.heap.size _ _ ?_ ?_ (by omega) hcap.2⟩
      · simp [relC, Value.cells, Value.oneCell']
      · rw [Array.getElem?_append_left (by simp)]; rfl
      · simp only [Array.size_append, List.size_toArray, Builtin.zeroCells, Array.size_map, Array.size_range, hzsz, List.length_nil, List.length_singleton]; omega
    | _ => exact h.elim
  | lit X0 =>
    cases X0 with
    | slice a n c =>
      cases a with
      | none => exact h.elim
      | some a =>
        obtain ⟨i0, cs, ho0, hv0, hpin, hsz, hnc, hcm, hb47, hm, hin, hout⟩ := h
        obtain ⟨b, o, sp⟩ := a
        simp only at ho0 hv0 hpin
        subst ho0 hv0
        obtain rfl := relV_lit hs
        obtain ⟨hheap, _⟩ := inv_pin_heap hI hpin
        by_cases hfit : n < c
        · obtain ⟨_, hE, hI'⟩ := inv_pin (o' := .cells (cs.setIfInBounds n (.int .i64 y)) e) hI hpin
          have hst : (storeCells ⟨b, n, none⟩ [.int .i64 y]).run P w = .ok () (w.putObj b (.cells (cs.setIfInBounds n (.int .i64 y)) e)) := by
            have h := run_storeCells_at P b n e [Value.int .i64 y] 0 cs w hheap (by simp; omega) (by simp [Value.oneCell'])
            rw [h, setRow_eq_setBlk _ hheap]
            have e1 : (cs.toList.take (n + 0) ++ [Value.int .i64 y] ++ cs.toList.drop (n + 0 + [Value.int .i64 y].length)).toArray = cs.setIfInBounds n (.int .i64 y) := by
              apply Array.ext'
              simp only [Nat.add_zero, List.length_singleton, Array.toList_setIfInBounds]
              rw [List.set_eq_take_append_cons_drop, if_pos (by simpa using (by omega : n < cs.size))]
              simp
            rw [e1]; rfl
          have hrun := run_append_in (w := w) (ty := ty) (a := some ⟨b, 0, none⟩) (n := n) (c := c) h0 h1 hu hd hni hi hlen (hfirst w rfl) (by omega)
          have ea : (⟨b, 0, none⟩ : Addr).add (n * P.cellsOf e) = ⟨b, n, none⟩ := by rw [hcells]; simp [Addr.add]; try omega
          simp only [ea] at hrun
          rw [hst] at hrun
          exact ⟨_, _, g, .lit (.slice (some ⟨b, 0, none⟩) (n + 1) c), _, hrun, hE, hI', relV_of (by simp [relC, Value.cells, Value.oneCell']) rfl, hin hfit⟩
        · obtain rfl : n = c := by omega
          have h48 : Builtin.nextslicecap (n + 1) n * i.bytes ≤ 281474976710656 := growslice_fits (by omega) (by rw [hbytes]; exact hb47)
          have ho : (Builtin.firstCells (P.cellsOf e) n (.slice (some ⟨b, 0, none⟩) n n)).run P w.drew = .ok cs.toList.toArray w.drew := by
            refine run_firstCells_some w.drew _ _ _ _ _ cs.toList (by rw [hcells]; simp; omega) fun j v hjv => ?_
            have hr : rd w.drew b 0 cs.toList := ⟨cs, e, (0, 0), hheap, fun j _ => by rw [Nat.zero_add, Array.getElem?_toList]⟩
            have h := rd_cell hr j v hjv
            simpa [Addr.add] using h
          have hrun := run_append_out (w := w) (ty := ty) (a := some ⟨b, 0, none⟩) h0 h1 hu hd hni hi hzv hlen (hfirst w.drew rfl) ho (show n < n + 1 by omega) hm h48
          have hcap := grownCap_le (w := w) (need := n + 1) (old := n) (e := e) hm
          obtain ⟨g', hE, hI'⟩ := inv_pushPin (inv_drew hI) (o := .cells (cs.toList.toArray ++ [Value.int .i64 y].toArray ++ Builtin.zeroCells zv.cells (grownCap w (n + 1) n e - (n + 1))) e) (vs := []) (xs := []) (by intro i v x h; simp at h)
          refine ⟨_, _, g', .lit (.slice (some ⟨w.heap.size, 0, none⟩) (n + 1) (grownCap w (n + 1) n e)), _, hrun, (ev_drew g w).trans hE, hI', relV_of ?_ rfl, hout w.drew.heap.size _ _ ?_ ?_ ?_ hcap.1 hcap.2⟩
          · simp [relC, Value.cells, Value.oneCell']
          · intro j hj
            rw [Array.getElem?_append_left (by simp; omega), Array.getElem?_append_left (by simp; omega)]
          · rw [Array.getElem?_append_left (by simp; omega), Array.getElem?_append_right (by simp; omega)]
            simp [hsz]
          · simp only [Array.size_append, List.size_toArray, Builtin.zeroCells, Array.size_map, Array.size_range, hzsz, List.length_singleton, Array.length_toList]; omega
    | _ => exact h.elim
  | _ => exact h.elim

theorem append_does (hI : Inv g σ w) {ts : Array TypeId} {ty : TypeId} {s x : AV} {S X : Value} {K : AV → AST → Prop} (hs : relV g w s S) (hx : relV g w x X) (h : appendW P ts s x σ K) : Does P g w (Builtin.append_ ts ty #[S, X]) K :=
  h.elim (append_does0 hI hs hx) (appendL_does hI hs hx)

theorem appendL_mono {ts : Array TypeId} {s x : AV} {K K' : AV → AST → Prop} (hk : ∀ v σ', K v σ' → K' v σ') (h : appendL P ts s x σ K) : appendL P ts s x σ K' := by
  obtain ⟨t, u, e, y, h0, h1, h2, h3, h4, h⟩ := h
  refine ⟨t, u, e, y, h0, h1, h2, h3, h4, ?_⟩
  split at h
  · exact ⟨h.1, h.2.1, fun b c cs a1 a2 a3 a4 => hk _ _ (h.2.2 b c cs a1 a2 a3 a4)⟩
  · obtain ⟨i, cs, a1, a2, a3, a4, a5, a6, a7, a8, a9, a10⟩ := h
    exact ⟨i, cs, a1, a2, a3, a4, a5, a6, a7, a8, fun q => hk _ _ (a9 q), fun b c' cs' b1 b2 b3 b4 b5 => hk _ _ (a10 b c' cs' b1 b2 b3 b4 b5)⟩
  · exact h.elim

end Go.Aff

