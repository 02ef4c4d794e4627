import Derived.Test.YtahhjdknfhkgcaaG3
import Derived.Maps.RangeRun

set_option linter.unusedSimpArgs false
set_option linter.unusedVariables false

namespace Go.Aff

variable {g g' : G} {w w' : World} {σ σ' : AST} {P : Program}

theorem inplace_does (hI : Inv g σ w) {k b o n c es : Nat} {ys : List AV} {cy : List Value} (hk : g.toks[k]? = some ⟨some (b, o), n, c, es⟩) (hy : relEs g w es ys cy) (hm : 0 < ys.length) (hfit : n + ys.length ≤ c)
    (h1 : ∀ v ∈ cy, v.oneCell' = true) :
    ∃ g' w', (storeCells (⟨b, o + n * es, none⟩ : Addr) cy).run P w = .ok () w' ∧ Ev g w g' w' ∧ Inv g' (σ.setTok k (n + ys.length) es) w' ∧
      (∀ xs cx, xs.length = n → relEs g w es xs cx → (cx = [] ∨ rd w b o cx) → relC g' w' (.slice (.own k) (xs ++ ys)) [.slice (some ⟨b, o, none⟩) (n + ys.length) c]) := by
  obtain ⟨hs1, hs2, hs3, hs4, hs5⟩ := hI.tok k _ hk
  obtain ⟨hlim, cur, el, fr, hc, hsz, hfr⟩ := hs5 b o rfl (by show n < c; omega)
  simp only at hlim hsz hs1
  have hcy := relEs_size hy
  have hroom : o + n * es + cy.length ≤ cur.size := by
    have : (n + ys.length) * es ≤ c * es := Nat.mul_le_mul_right _ hfit
    rw [Nat.add_mul] at this
    rw [hcy]; omega
  have hbase := (hI.rows b _ hlim).1
  have hst := run_storeCells_cells (P := P) b (o + n * es) cy 0 w (fun j hj => by simp [World.cell?, hc]; omega) (fun j hj => by
    have : ¬ (fr.1 ≤ o + n * es + 0 + j ∧ o + n * es + 0 + j < fr.2) := by omega
    simp only [World.frozen?, hc]
    simpa using this) h1
  simp only [Nat.add_zero] at hst
  rw [setCells_eq cy (o + n * es) cur w hc hroom] at hst
  let new : Array Value := (splice cur.toList (o + n * es) cy).toArray
  have hnewsz : new.size = cur.size := by
    show (splice cur.toList (o + n * es) cy).toArray.size = _
    rw [List.size_toArray, splice_length (by simpa using hroom)]; simp
  have hget : ∀ j, new[j]? = if o + n * es ≤ j ∧ j < o + n * es + cy.length then cy[j - (o + n * es)]? else cur[j]? := by
    intro j
    show (splice cur.toList (o + n * es) cy).toArray[j]? = _
    rw [List.getElem?_toArray, splice_get (by simpa using hroom)]; simp
  let e1 : TokE := ⟨some (b, o), n + ys.length, c, es⟩
  let g' : G := { g with lim := fun x => if x = b then some (o + (n + ys.length) * es) else g.lim x, toks := g.toks.set k e1 }
  have hklt : k < g.toks.length := (List.getElem?_eq_some_iff.1 hk).1
  have getk : g'.toks[k]? = some e1 := by show (g.toks.set k e1)[k]? = _; rw [List.getElem?_set]; simp [hklt]
  have geto : ∀ (t : Nat), t ≠ k → g'.toks[t]? = g.toks[t]? := by
    intro t ht
    show (g.toks.set k e1)[t]? = _
    rw [List.getElem?_set, if_neg (fun h => ht h.symm)]
  have hW : ∀ x, x ≠ b → (setBlk w b (.cells new el fr)).heap[x]? = w.heap[x]? := fun x hx => setBlk_other hx
  have hWb : (setBlk w b (.cells new el fr)).heap[b]? = some (.cells new el fr) := setBlk_same (lt_of_blk hc)
  have hL : o + n * es ≤ o + (n + ys.length) * es := by rw [Nat.add_mul]; omega
  have hE : Ev g w g' (setBlk w b (.cells new el fr)) := by
    refine ⟨rfl, rfl, rfl, by simp [setBlk], rfl, fun x hx => hW x (by omega), fun i x h => h, ?_, ?_⟩
    · intro x L hx
      by_cases ex : x = b
      · subst ex
        rw [hlim] at hx; cases hx
        refine ⟨⟨_, by show (if x = x then _ else _) = _; rw [if_pos rfl], hL⟩, fun c' e' fr' hc' => ?_⟩
        rw [hc] at hc'; cases hc'
        exact ⟨new, el, fr, hWb, fun j hj => by rw [hget, if_neg (by omega)]⟩
      · exact ⟨⟨L, by show (if x = b then _ else _) = _; rw [if_neg ex]; exact hx, Nat.le_refl _⟩, fun c' e' fr' hc' => ⟨c', e', fr', by rw [hW x ex]; exact hc', fun _ _ => rfl⟩⟩
    · intro t q hq
      by_cases et : t = k
      · subst et; rw [hk] at hq; cases hq
        exact ⟨e1, getk, rfl, by show n ≤ n + ys.length; omega, fun h => by have : n + ys.length = n := h; omega, .inl rfl⟩
      · exact ⟨q, by rw [geto t et]; exact hq, rfl, Nat.le_refl _, fun _ => rfl, .inl rfl⟩
  refine ⟨g', _, hst, hE, ?_, ?_⟩
  · refine { base := Nat.le_trans hI.base hE.size, nobj := hI.nobj, obj := ?_, inj := hI.inj, rows := ?_, ntok := by simp [AST.setTok, g', hI.ntok], tok := ?_, tinj := ?_ }
    · intro j q hq hql
      obtain ⟨b2, sh2, h2, hb2, hl2, hin2⟩ := hI.obj j q hq hql
      have hne : b2 ≠ b := by rintro rfl; rw [hlim] at hl2; cases hl2
      exact ⟨b2, sh2, h2, hb2, by show (if b2 = b then _ else _) = _; rw [if_neg hne]; exact hl2, objIn_mono hE (hW _ hne) hin2⟩
    · intro x L hx
      by_cases ex : x = b
      · subst ex
        have : L = o + (n + ys.length) * es := by
          have h : (if x = x then some (o + (n + ys.length) * es) else g.lim x) = some L := hx
          simp at h; exact h.symm
        subst this
        refine ⟨hbase, new, el, fr, hWb, ?_, by rw [hnewsz]; exact hfr⟩
        rw [hnewsz]
        have : (n + ys.length) * es ≤ c * es := Nat.mul_le_mul_right _ hfit
        omega
      · have h : (if x = b then some (o + (n + ys.length) * es) else g.lim x) = some L := hx
        rw [if_neg ex] at h
        obtain ⟨p1, c', e', fr', hc', hL'⟩ := hI.rows x L h
        exact ⟨p1, c', e', fr', by rw [hW x ex]; exact hc', hL'⟩
    · intro t q hq
      by_cases et : t = k
      · subst et
        rw [getk] at hq; cases hq
        refine ⟨by simp [AST.setTok, e1, hI.ntok, hklt], hfit, hs3, (fun h => by cases h), fun b' o' hbo hlt => ?_⟩
        simp only [e1, Option.some.injEq, Prod.mk.injEq] at hbo
        obtain ⟨rfl, rfl⟩ := hbo
        refine ⟨by show (if b = b then _ else _) = _; rw [if_pos rfl], new, el, fr, hWb, by rw [hnewsz]; exact hsz, by rw [hnewsz]; exact hfr⟩
      · rw [geto t et] at hq
        obtain ⟨p1, p2, p3, p4, p5⟩ := hI.tok t q hq
        refine ⟨by simp only [AST.setTok]; rw [List.getElem?_set, if_neg (fun h => et h.symm)]; exact p1, p2, p3, p4, fun b' o' hbo hlt => ?_⟩
        obtain ⟨l2, c', e', fr', hc', hsz', hfr'⟩ := p5 b' o' hbo hlt
        have hne : b' ≠ b := by
          rintro rfl
          exact et (hI.tinj t k q _ b' o' o hq hk hbo rfl hlt (by show n < c; omega))
        exact ⟨by show (if b' = b then _ else _) = _; rw [if_neg hne]; exact l2, c', e', fr', by rw [hW b' hne]; exact hc', hsz', hfr'⟩
    · intro t u q q' x o1 o2 ht hu ha ha' hl hl'
      have conv : ∀ (t : Nat) (q : TokE), g'.toks[t]? = some q → q.a = some (x, o1) ∨ q.a = some (x, o2) → q.len < q.cap → ∃ q0, g.toks[t]? = some q0 ∧ q0.len < q0.cap ∧ q0.a = q.a := by
        intro t q hq _ hlt
        by_cases et : t = k
        · subst et; rw [getk] at hq; cases hq; exact ⟨_, hk, by show n < c; omega, rfl⟩
        · rw [geto t et] at hq; exact ⟨q, hq, hlt, rfl⟩
      obtain ⟨q0, hq0, hlt0, ha0⟩ := conv t q ht (.inl ha) hl
      obtain ⟨q1, hq1, hlt1, ha1⟩ := conv u q' hu (.inr ha') hl'
      exact hI.tinj t u q0 q1 x o1 o2 hq0 hq1 (by rw [ha0]; exact ha) (by rw [ha1]; exact ha') hlt0 hlt1
  · intro xs cx hxl hxs hrd
    have hcx := relEs_size hxs
    rw [hxl] at hcx
    have hall := relEs_append hxs hy
    simp only [relC]
    refine ⟨some (mkAddr (b, o)), some (b, o), c, es, cx ++ cy, by simp [mkAddr, hxl], .inl rfl, relEs_mono hE hall, by simp [hxl]; omega, hs3, (fun h => by cases h), (fun b' o' hbo => .inr ?_), e1, getk, by simp [e1, hxl], fun _ => ⟨rfl, rfl⟩, .inr rfl⟩
    simp only [Option.some.injEq, Prod.mk.injEq] at hbo
    obtain ⟨rfl, rfl⟩ := hbo
    refine ⟨⟨new, el, fr, hWb, fun j hj => ?_⟩, .inr ⟨o + (n + ys.length) * es, by show (if b = b then _ else _) = _; rw [if_pos rfl], by rw [List.length_append, hcx, hcy, Nat.add_mul]; omega⟩⟩
    rw [hget]
    rw [List.length_append, hcx] at hj
    by_cases hj1 : j < n * es
    · rw [if_neg (by omega), List.getElem?_append_left (by omega)]
      rcases hrd with rfl | ⟨c', e', fr', hc', hj'⟩
      · simp at hcx; omega
      · rw [hc] at hc'; cases hc'
        exact hj' j (by omega)
    · rw [if_pos (by omega), List.getElem?_append_right (by omega), hcx]
      congr 1; omega

theorem setTok_self {k n es : Nat} (h : σ.toks[k]? = some (n, es)) : σ.setTok k n es = σ := by
  unfold AST.setTok
  have : σ.toks.set k (n, es) = σ.toks := by
    apply List.ext_getElem?
    intro j
    rw [List.getElem?_set]
    split
    · rename_i e; subst e; rw [if_pos (List.getElem?_eq_some_iff.1 h).1, h]
    · rfl
  rw [this]

theorem append_does0 (hI : Inv g σ w) {ts : Array TypeId} {ty : TypeId} {s x : AV} {S X : Value} {K : AV → AST → Prop} (hs : relV g w s S) (hx : relV g w x X) (h : appendW0 P ts s x σ K) : Does P g w (Builtin.append_ ts ty #[S, X]) K := by
  obtain ⟨t, u, e, xs, tk, ys, h0, h1, hu, rfl, hel, ⟨z, hz⟩, hys, hb47, hmaxl, htk⟩ := h
  obtain ⟨i, zv, hi, hzv, hzc, _, _⟩ := hz
  have hbytes : i.bytes = P.bytesOf e := by simp [Program.bytesOf, hi]
  have hcells : i.size = P.cellsOf e := by simp [Program.cellsOf, hi]
  obtain ⟨ad, a, c, es, css, rfl, had, hes, hc, hcm, hnone, hmem, htok⟩ := relV_slice hs
  obtain ⟨cy, hcy, hlen, hfirst, ⟨d, hd, hni⟩, _⟩ := elems_run hx hel hys
  have hcyone : ∀ v ∈ cy, v.oneCell' = true := by
    have gen : ∀ {ps : List AV} {cs : List Value} {q : Nat}, relEs g w q ps cs → ∀ v ∈ cs, v.oneCell' = true := by
      intro ps
      induction ps with
      | nil => intro cs q h; simp only [relEs] at h; subst h; simp
      | cons p ps ih =>
        intro cs q h
        simp only [relEs] at h
        obtain ⟨c1, c2, rfl, _, h3, h4⟩ := h
        intro v hv
        rcases List.mem_append.1 hv with hv | hv
        · exact relC_cell1 h3 v hv
        · exact ih h4 v hv
    exact gen hcy
  -- what stands in the old slice
  have hold : ∀ {W : World}, W.heap = w.heap → relEs g w (P.cellsOf e) xs css → (Builtin.firstCells (P.cellsOf e) xs.length (.slice ad xs.length c)).run P W = .ok css.toArray W := by
    intro W hW hes'
    have hsz := relEs_size hes'
    cases a with
    | none =>
      have hx0 : xs.length = 0 := by have := hnone rfl; omega
      have : css = [] := List.eq_nil_of_length_eq_zero (by rw [hsz, hx0]; simp)
      subst this
      rw [hx0]
      cases ad with
      | none => simp [Builtin.firstCells]
      | some ad => simp [Builtin.firstCells, loadCells, loadCellsFrom]
    | some bo =>
      obtain ⟨b, o⟩ := bo
      obtain rfl := had.some
      refine run_firstCells_some W _ _ _ _ _ css hsz fun j v hjv => ?_
      rcases hmem b o rfl with h0 | ⟨hr, _⟩
      · subst h0; simp at hjv
      · have := rd_cell hr j v hjv
        unfold World.cell? at this ⊢
        rw [hW]; exact this
  have grow : ∀ (σ1 : AST) (k : Nat) (toks' : List TokE), relEs g w (P.cellsOf e) xs css → c < xs.length + ys.length → σ1.objs = σ.objs → k ≤ g.toks.length →
      (∀ cap, cap ≤ maxL → ∃ toks', ((k = g.toks.length ∧ toks' = g.toks ++ [⟨some (w.heap.size, 0), (xs ++ ys).length, cap, P.cellsOf e⟩] ∧ σ1.toks = σ.toks ++ [((xs ++ ys).length, P.cellsOf e)]) ∨
        (∃ e0, g.toks[k]? = some e0 ∧ e0.es = P.cellsOf e ∧ e0.len < (xs ++ ys).length ∧ toks' = g.toks.set k ⟨some (w.heap.size, 0), (xs ++ ys).length, cap, P.cellsOf e⟩ ∧ σ1.toks = σ.toks.set k ((xs ++ ys).length, P.cellsOf e)))) →
      K (.slice (.own k) (xs ++ ys)) σ1 → Does P g w (Builtin.append_ ts ty #[.slice ad xs.length c, X]) K := by
    intro σ1 k _ hes' hfit hobj hk htoks hK
    have h48 : Builtin.nextslicecap (xs.length + ys.length) c * i.bytes ≤ 281474976710656 := growslice_fits hfit (by rw [hbytes]; exact hb47)
    have hrun := run_append_out (w := w) (ty := ty) (a := ad) h0 h1 hu hd hni hi hzv hlen (hfirst w.drew rfl) (hold (W := w.drew) rfl hes') hfit hmaxl h48
    have hcap := grownCap_le (w := w) (need := xs.length + ys.length) (old := c) (e := e) hmaxl
    obtain ⟨toks', ht⟩ := htoks _ hcap.2
    have hall := relEs_append hes' hcy
    have hsz := relEs_size hall
    have hzsz : zv.cells.size = P.cellsOf e := by
      have := relC_size (conc_rel g w hzc)
      have h2 : i.size = z.size := by assumption
      rw [← hcells, h2, ← this]; simp
    obtain ⟨g1, hE, hI1, hr⟩ := grow_does (e := e) (xs := xs ++ ys) (cells := css.toArray ++ cy.toArray ++ Builtin.zeroCells zv.cells (grownCap w (xs.length + ys.length) c e - (xs.length + ys.length))) (css := css ++ cy) (cap := grownCap w (xs.length + ys.length) c e) (n := 0) hI hall
      (fun j hj => by rw [← Array.getElem?_toList]; simp only [Array.toList_append]; rw [List.getElem?_append_left hj])
      (by
        rw [List.length_append, List.length_append] at hsz
        simp only [Array.size_append, List.size_toArray, Builtin.zeroCells, Array.size_map, Array.size_range, hzsz]
        rw [hsz, ← Nat.add_mul]; congr 1; omega)
      (by simpa using hcap.1) hcap.2 toks' σ1 hobj k hk ht
    refine ⟨_, _, g1, .slice (.own k) (xs ++ ys), σ1, hrun, hE, hI1, relV_of ?_ rfl, hK⟩
    simpa [Value.cells] using hr
  have hinplace_run : ∀ {w1 : World}, xs.length + ys.length ≤ c → (match ad with | some a => (storeCells (a.add (xs.length * P.cellsOf e)) cy).run P w | none => .ok () w) = .ok () w1 →
      (Builtin.append_ ts ty #[.slice ad xs.length c, X]).run P w = .ok (.slice ad (xs.length + ys.length) c) w1 := by
    intro w1 hfit hst
    rw [run_append_in (w := w) (ty := ty) (a := ad) h0 h1 hu hd hni hi hlen (hfirst w rfl) hfit]
    cases ad with
    | none => simp only at hst ⊢; cases hst; rfl
    | some bo => simp only at hst ⊢; rw [hst]; rfl
  cases tk with
  | none => exact htk.elim
  | lit => exact htk.elim
  | full =>
    obtain ⟨hsx, hK⟩ := htk
    have hes' := relEs_es hes hsx
    simp only [tkOk] at htok
    by_cases hy0 : ys = []
    · subst hy0
      have hcy0 : cy = [] := by simpa [relEs] using hcy
      subst hcy0
      have hrun := hinplace_run (w1 := w) (by simp; omega) (by cases ad <;> rfl)
      obtain ⟨hE, hI1⟩ := inv_tok hI ⟨a, xs.length, c, P.cellsOf e⟩ (by show xs.length ≤ c; omega) hcm hnone (fun b o hbo hlt => by have : xs.length < c := hlt; omega)
      refine ⟨_, w, _, .slice (.own σ.toks.length) (xs ++ []), _, hrun, hE, hI1, relV_of ?_ rfl, by simpa using hK⟩
      simp only [relC, Value.cells, List.append_nil]
      exact ⟨ad, a, c, P.cellsOf e, css, by simp, had, relEs_mono hE hes', hc, hcm, hnone, fun b o hbo => (hmem b o hbo).imp id (fun ⟨p, q⟩ => rd_mono hE p q), ⟨a, xs.length, c, P.cellsOf e⟩, by rw [hI.ntok]; simp, Nat.le_refl _, fun _ => ⟨rfl, rfl⟩, .inr rfl⟩
    · have hpos : 0 < ys.length := by cases ys with | nil => exact absurd rfl hy0 | cons y ys => simp
      refine grow (σ.tok (xs.length + ys.length) (P.cellsOf e)) σ.toks.length [] hes' (by omega) rfl (by rw [hI.ntok]; exact Nat.le_refl _) (fun cap _ => ⟨_, .inl ⟨hI.ntok, rfl, by simp [AST.tok]⟩⟩) hK
  | own k =>
    obtain ⟨hσk, hK⟩ := htk
    obtain ⟨e0, he0, hle0, heq0, hes0⟩ := htok
    obtain ⟨q1, q2, q3, q4, q5⟩ := hI.tok k e0 he0
    rw [hσk] at q1
    simp only [Option.some.injEq, Prod.mk.injEq] at q1
    obtain ⟨ql, qe⟩ := q1
    obtain ⟨ha0, hc0⟩ := heq0 ql
    have hes' : relEs g w (P.cellsOf e) xs css := by
      rcases hes0 with h | h
      · have : xs = [] := List.eq_nil_of_length_eq_zero h
        subst this; simpa [relEs] using hes
      · rw [← qe] at h; rw [← h]; exact hes
    by_cases hy0 : ys = []
    · subst hy0
      have hcy0 : cy = [] := by simpa [relEs] using hcy
      subst hcy0
      have hrun := hinplace_run (w1 := w) (by simp; omega) (by cases ad <;> rfl)
      simp only [List.length_nil, Nat.add_zero, List.append_nil] at hK hrun
      rw [setTok_self hσk] at hK
      exact Does.pure hI hrun hs hK
    · have hpos : 0 < ys.length := by cases ys with | nil => exact absurd rfl hy0 | cons y ys => simp
      by_cases hfit : xs.length + ys.length ≤ c
      · cases a with
        | none => have := hnone rfl; omega
        | some bo =>
          obtain ⟨b, o⟩ := bo
          obtain rfl := had.some
          have hk' : g.toks[k]? = some ⟨some (b, o), xs.length, c, P.cellsOf e⟩ := by
            rw [he0]; congr 1
            cases e0; simp_all
          obtain ⟨g1, w1, hst, hE, hI1, hr⟩ := inplace_does (P := P) hI hk' hcy hpos hfit hcyone
          have hrun := hinplace_run (w1 := w1) hfit (by simp only [mkAddr, mk_add]; exact hst)
          refine ⟨_, w1, g1, .slice (.own k) (xs ++ ys), _, hrun, hE, hI1, relV_of ?_ rfl, hK⟩
          have := hr xs css rfl hes' ((hmem b o rfl).imp id (fun h => h.1))
          simpa [Value.cells, mkAddr] using this
      · refine grow (σ.setTok k (xs.length + ys.length) (P.cellsOf e)) k [] hes' (by omega) rfl (Nat.le_of_lt (List.getElem?_eq_some_iff.1 he0).1) (fun cap _ => ⟨_, .inr ⟨e0, he0, qe.symm, by simp; omega, rfl, by simp [AST.setTok]⟩⟩) hK

theorem inv_pin (hI : Inv g σ w) {i l : Nat} {o o' : Obj} {vs : List AV} {xs : List Value} (hi : σ.objs[i]? = some (.pin l o vs xs)) :
    w.heap[l]? = some o ∧ Ev g w g (w.putObj l o') ∧ Inv g (σ.set i (.pin l o' vs xs)) (w.putObj l o') := by
  obtain ⟨b, sh, hg, hb, hl, rfl, ho, hr⟩ := hI.obj i _ hi rfl
  have hlt := lt_of_blk ho
  have h := inv_setObj (o' := .pin b o' vs xs) (B := o') hI hi rfl hg ⟨rfl, setBlk_same hlt, fun i v x h1 h2 => (hr i v x h1 h2).imp id fun ⟨a, b⟩ => ⟨relC_mono (ev_obj hI hb hl) a, b⟩⟩
  exact ⟨ho, h⟩
theorem inv_pin_heap (hI : Inv g σ w) {i l : Nat} {o : Obj} {vs : List AV} {xs : List Value} (hi : σ.objs[i]? = some (.pin l o vs xs)) :
    w.heap[l]? = some o ∧ ∀ (i : Nat) v x, vs[i]? = some v → xs[i]? = some x → v = .undef ∨ (relC g w v x.cells.toList ∧ v.isAgg = vAgg x) := by
  obtain ⟨b, sh, hg, hb, hl, rfl, ho, hr⟩ := hI.obj i _ hi rfl
  exact ⟨ho, hr⟩
theorem inv_pushPin (hI : Inv g σ w) {o : Obj} {vs : List AV} {xs : List Value} (h : ∀ (i : Nat) v x, vs[i]? = some v → xs[i]? = some x → v = .undef ∨ (relC g w v x.cells.toList ∧ v.isAgg = vAgg x)) :
    ∃ g', Ev g w g' (w.alloc o) ∧ Inv g' (σ.push (.pin w.heap.size o vs xs)) (w.alloc o) :=
  ⟨_, inv_push (sh := .leaf) hI fun g' hE => ⟨rfl, alloc_new, fun i v x h1 h2 => (h i v x h1 h2).imp id fun ⟨a, b⟩ => ⟨relC_mono hE a, b⟩⟩⟩

theorem relV_lit {x S : Value} (hs : relV g w (.lit x) S) : S = x := by
  rcases hs with h | ⟨_, _, h, _⟩ | ⟨h, hag⟩
  · cases h
  · cases h
  · simp only [relC] at h
    obtain ⟨h, _⟩ := h
    cases S <;> first | (cases hag; done) | (simp only [Value.cells] at h; simpa using h)
theorem appendL_does (hI : Inv g σ w) {ts : Array TypeId} {ty : TypeId} {s x : AV} {S X : Value} {K : AV → AST → Prop} (hs : relV g w s S) (hx : relV g w x X) (h : appendL P ts s x σ K) : Does P g w (Builtin.append_ ts ty #[S, X]) K := by
  obtain ⟨t, u, e, y, h0, h1, hu, hel, ⟨z, hz, hz1⟩, h⟩ := h
  obtain ⟨i, zv, hi, hzv, hzc, _, hisz⟩ := hz
  have hbytes : i.bytes = P.bytesOf e := by simp [Program.bytesOf, hi]
  have hcells : P.cellsOf e = 1 := by simp [Program.cellsOf, hi, hisz, hz1]
  have hzsz : zv.cells.size = 1 := by
    have := relC_size (conc_rel g w hzc)
    rw [hz1] at this; simpa using this
  obtain ⟨cy, hcy, hlen, hfirst, ⟨d, hd, hni⟩, _⟩ := elems_run hx hel (by intro v hv; simp at hv; subst hv; rw [hcells]; rfl)
  have hcy1 : cy = [.int .i64 y] := by
    simp only [relEs, relC] at hcy; obtain ⟨c1, c2, rfl, _, rfl, rfl⟩ := hcy; rfl
  subst hcy1
  simp only [List.length_singleton] at hlen hfirst
  cases s with
  | slice tk xs =>
    cases tk with
    | full =>
      obtain ⟨rfl, hb47, hK⟩ := h
      obtain ⟨ad, a, c, es, css, rfl, had, hes, hc, hcm, hnone, hmem, htok⟩ := relV_slice hs
      simp only [tkOk, List.length_nil] at htok
      subst htok
      have h48 : Builtin.nextslicecap (0 + 1) 0 * i.bytes ≤ 281474976710656 := growslice_fits (by omega) (by rw [hbytes]; omega)
      have ho : (Builtin.firstCells (P.cellsOf e) 0 (.slice ad 0 0)).run P w.drew = .ok (([] : List Value).toArray) w.drew := by
        cases ad with
        | none => simp [Builtin.firstCells]
        | some ad => simp [Builtin.firstCells, loadCells, loadCellsFrom]
      have hrun := run_append_out (w := w) (ty := ty) (a := ad) h0 h1 hu hd hni hi hzv hlen (hfirst w.drew rfl) ho (show 0 < 0 + 1 by omega) (by unfold maxL; omega) h48
      have hcap := grownCap_le (w := w) (need := 0 + 1) (old := 0) (e := e) (by unfold maxL; omega)
      obtain ⟨g', hE, hI'⟩ := inv_pushPin (inv_drew hI) (o := .cells (([] : List Value).toArray ++ [Value.int .i64 y].toArray ++ Builtin.zeroCells zv.cells (grownCap w (0 + 1) 0 e - (0 + 1))) e) (vs := []) (xs := []) (by intro i v x h; simp at h)
      refine ⟨_, _, g', .lit (.slice (some ⟨w.heap.size, 0, none⟩) 1 (grownCap w (0 + 1) 0 e)), _, hrun, (ev_drew g w).trans hE, hI', relV_of ?_ rfl, hK w.drew.heap.size _ _ ?_ ?_ (by omega) hcap.2⟩
      · simp [relC, Value.cells, Value.oneCell']
      · rw [Array.getElem?_append_left (by simp)]; rfl
      · simp only [Array.size_append, List.size_toArray, Builtin.zeroCells, Array.size_map, Array.size_range, hzsz, List.length_nil, List.length_singleton]; omega
    | _ => exact h.elim
  | lit X0 =>
    cases X0 with
    | slice a n c =>
      cases a with
      | none => exact h.elim
      | some a =>
        obtain ⟨i0, cs, ho0, hv0, hpin, hsz, hnc, hcm, hb47, hm, hin, hout⟩ := h
        obtain ⟨b, o, sp⟩ := a
        simp only at ho0 hv0 hpin
        subst ho0 hv0
        obtain rfl := relV_lit hs
        obtain ⟨hheap, _⟩ := inv_pin_heap hI hpin
        by_cases hfit : n < c
        · obtain ⟨_, hE, hI'⟩ := inv_pin (o' := .cells (cs.setIfInBounds n (.int .i64 y)) e) hI hpin
          have hst : (storeCells ⟨b, n, none⟩ [.int .i64 y]).run P w = .ok () (w.putObj b (.cells (cs.setIfInBounds n (.int .i64 y)) e)) := by
            have h := run_storeCells_at P b n e [Value.int .i64 y] 0 cs w hheap (by simp; omega) (by simp [Value.oneCell'])
            rw [h, setRow_eq_setBlk _ hheap]
            have e1 : (cs.toList.take (n + 0) ++ [Value.int .i64 y] ++ cs.toList.drop (n + 0 + [Value.int .i64 y].length)).toArray = cs.setIfInBounds n (.int .i64 y) := by
              apply Array.ext'
              simp only [Nat.add_zero, List.length_singleton, Array.toList_setIfInBounds]
              rw [List.set_eq_take_append_cons_drop, if_pos (by simpa using (by omega : n < cs.size))]
              simp
            rw [e1]; rfl
          have hrun := run_append_in (w := w) (ty := ty) (a := some ⟨b, 0, none⟩) (n := n) (c := c) h0 h1 hu hd hni hi hlen (hfirst w rfl) (by omega)
          have ea : (⟨b, 0, none⟩ : Addr).add (n * P.cellsOf e) = ⟨b, n, none⟩ := by rw [hcells]; simp [Addr.add]; try omega
          simp only [ea] at hrun
          rw [hst] at hrun
          exact ⟨_, _, g, .lit (.slice (some ⟨b, 0, none⟩) (n + 1) c), _, hrun, hE, hI', relV_of (by simp [relC, Value.cells, Value.oneCell']) rfl, hin hfit⟩
        · obtain rfl : n = c := by omega
          have h48 : Builtin.nextslicecap (n + 1) n * i.bytes ≤ 281474976710656 := growslice_fits (by omega) (by rw [hbytes]; exact hb47)
          have ho : (Builtin.firstCells (P.cellsOf e) n (.slice (some ⟨b, 0, none⟩) n n)).run P w.drew = .ok cs.toList.toArray w.drew := by
            refine run_firstCells_some w.drew _ _ _ _ _ cs.toList (by rw [hcells]; simp; omega) fun j v hjv => ?_
            have hr : rd w.drew b 0 cs.toList := ⟨cs, e, (0, 0), hheap, fun j _ => by rw [Nat.zero_add, Array.getElem?_toList]⟩
            have h := rd_cell hr j v hjv
            simpa [Addr.add] using h
          have hrun := run_append_out (w := w) (ty := ty) (a := some ⟨b, 0, none⟩) h0 h1 hu hd hni hi hzv hlen (hfirst w.drew rfl) ho (show n < n + 1 by omega) hm h48
          have hcap := grownCap_le (w := w) (need := n + 1) (old := n) (e := e) hm
          obtain ⟨g', hE, hI'⟩ := inv_pushPin (inv_drew hI) (o := .cells (cs.toList.toArray ++ [Value.int .i64 y].toArray ++ Builtin.zeroCells zv.cells (grownCap w (n + 1) n e - (n + 1))) e) (vs := []) (xs := []) (by intro i v x h; simp at h)
          refine ⟨_, _, g', .lit (.slice (some ⟨w.heap.size, 0, none⟩) (n + 1) (grownCap w (n + 1) n e)), _, hrun, (ev_drew g w).trans hE, hI', relV_of ?_ rfl, hout w.drew.heap.size _ _ ?_ ?_ ?_ hcap.1 hcap.2⟩
          · simp [relC, Value.cells, Value.oneCell']
          · intro j hj
            rw [Array.getElem?_append_left (by simp; omega), Array.getElem?_append_left (by simp; omega)]
          · rw [Array.getElem?_append_left (by simp; omega), Array.getElem?_append_right (by simp; omega)]
            simp [hsz]
          · simp only [Array.size_append, List.size_toArray, Builtin.zeroCells, Array.size_map, Array.size_range, hzsz, List.length_singleton, Array.length_toList]; omega
    | _ => exact h.elim
  | _ => exact h.elim

theorem append_does (hI : Inv g σ w) {ts : Array TypeId} {ty : TypeId} {s x : AV} {S X : Value} {K : AV → AST → Prop} (hs : relV g w s S) (hx : relV g w x X) (h : appendW P ts s x σ K) : Does P g w (Builtin.append_ ts ty #[S, X]) K :=
  h.elim (append_does0 hI hs hx) (appendL_does hI hs hx)

theorem appendL_mono {ts : Array TypeId} {s x : AV} {K K' : AV → AST → Prop} (hk : ∀ v σ', K v σ' → K' v σ') (h : appendL P ts s x σ K) : appendL P ts s x σ K' := by
  obtain ⟨t, u, e, y, h0, h1, h2, h3, h4, h⟩ := h
  refine ⟨t, u, e, y, h0, h1, h2, h3, h4, ?_⟩
  split at h
  · exact ⟨h.1, h.2.1, fun b c cs a1 a2 a3 a4 => hk _ _ (h.2.2 b c cs a1 a2 a3 a4)⟩
  · obtain ⟨i, cs, a1, a2, a3, a4, a5, a6, a7, a8, a9, a10⟩ := h
    exact ⟨i, cs, a1, a2, a3, a4, a5, a6, a7, a8, fun q => hk _ _ (a9 q), fun b c' cs' b1 b2 b3 b4 b5 => hk _ _ (a10 b c' cs' b1 b2 b3 b4 b5)⟩
  · exact h.elim

end Go.Aff

namespace Go.Aff

variable {g g' : G} {w w' : World} {σ σ' : AST} {P : Program}

theorem run_getObj' {W : World} {b : Nat} {me : Array MapEntry} {ck : Nat} (h : W.heap[b]? = some (.map me ck)) : (getObj b).run P W = .ok (.map me ck) W := by
  simp [getObj, Sem.run, h]
theorem run_setObj' {W : World} {b : Nat} {o : Obj} {me : Array MapEntry} {ck : Nat} (h : W.heap[b]? = some (.map me ck)) : (setObj b o).run P W = .ok () (setBlk W b o) := by
  simp [setObj, Sem.run, h, setBlk]

/-! ### Keys -/
theorem run_partV {ps : List AV} {cs : Array Value} {i o : Nat} {v : AV} {T : TypeId} (hr : relPs g w ps cs.toList) (hv : ps[i]? = some v) (ho : o = AV.sizes (ps.take i)) (ha : aggT P T = some v.isAgg) (hs : P.cellsOf T = v.size) :
    ∃ z, (∀ W, (part T cs o).run P W = .ok z W) ∧ isV g w v z := by
  subst ho
  obtain ⟨cv, hcv, hcell, hle⟩ := relPs_nth hr hv
  obtain ⟨dd, hd⟩ := agg_under ha
  have hlen := relC_size hcv
  cases hg : v.isAgg with
  | true =>
    rw [hg] at ha
    refine ⟨.agg cv.toArray, fun W => ?_, by simpa [Value.cells] using hcv, hg⟩
    have e : cs.extract (AV.sizes (ps.take i)) (AV.sizes (ps.take i) + P.cellsOf T) = cv.toArray := by
      apply Array.ext_getElem?
      intro j
      rw [Array.getElem?_extract]
      simp only [Array.length_toList] at hle
      rw [hs, ← hlen]
      split
      · rename_i hj
        have h1 := hcell j (by omega)
        simp at h1; rw [h1]; simp
      · rename_i hj
        have hj' : cv.length ≤ j := by omega
        simp [List.getElem?_eq_none hj']
    simp [part, run_isAgg' ha, run_sizeOf' hd, e]
  | false =>
    rw [hg] at ha
    obtain ⟨q, rfl⟩ := relC_scalar hcv hg
    have h1 := relC_cell1 hcv q (by simp)
    have h0 := hcell 0 (by simp)
    simp at h0
    refine ⟨q, fun W => ?_, ?_, ?_⟩
    · simp [part, run_isAgg' ha, h0]
    · rw [cells_one (vAgg_one h1)]; exact hcv
    · rw [hg, vAgg_one h1]

theorem keyOks_each : ∀ (n : Nat) {i : Nat} {fs : List Field} {xs ax : List AV} {cx : Array Value}, keyOks P n i fs xs ax = true → relPs g w ax cx.toList → xs = ax.drop i →
    ∀ f ∈ fs, f.name ≠ "_" ∧ ∃ v z m, m < n ∧ keyOk P m f.type v = true ∧ (∀ W, (part f.type cx f.offset).run P W = .ok z W) ∧ isV g w v z
  | 0, i, fs, xs, ax, cx, h, hr, e => by simp [keyOks] at h
  | n + 1, i, [], xs, ax, cx, h, hr, e => by simp
  | n + 1, i, f :: fs, [], ax, cx, h, hr, e => by simp [keyOks] at h
  | n + 1, i, f :: fs, x :: xs, ax, cx, h, hr, e => by
    simp only [keyOks, Bool.and_eq_true, decide_eq_true_eq] at h
    obtain ⟨⟨⟨h1, h2, h3, h4⟩, h5⟩, h6⟩ := h
    have hxi : ax[i]? = some x := by
      have : (ax.drop i)[0]? = some x := by rw [← e]; rfl
      simpa using this
    have ex' : xs = ax.drop (i + 1) := by
      have h0 : (ax.drop i).drop 1 = xs := by rw [← e]; rfl
      rw [← h0, List.drop_drop]
    intro y hy
    rcases List.mem_cons.1 hy with rfl | hy
    · obtain ⟨z, hz, hv⟩ := run_partV (P := P) hr hxi h2 h3 h4
      exact ⟨h1, x, z, n, by omega, h5, hz, hv⟩
    · obtain ⟨a, v, z, m, hm, r⟩ := keyOks_each n h6 hr ex' y hy
      exact ⟨a, v, z, m, by omega, r⟩

theorem scV {v : AV} {V : Value} (hv : isV g w v V) (ha : v.isAgg = false) : relC g w v [V] := by
  have := hv.2; rw [ha] at this
  have h0 := hv.1
  rw [cells_one this.symm] at h0; exact h0

theorem keyOk_run (n : Nat) : ∀ {t : TypeId} {x : AV} {X : Value}, keyOk P n t x = true → isV g w x X → ∀ emp d, n ≤ d → ∀ W, (Instr.checkKey emp d t X).run P W = .ok () W := by
  induction n using Nat.strongRecOn with
  | _ n ih =>
  intro t x X h hx emp d hd W
  cases n with
  | zero => simp [keyOk] at h
  | succ n =>
    obtain ⟨d, rfl⟩ : ∃ k, d = k + 1 := ⟨d - 1, by omega⟩
    simp only [keyOk] at h
    split at h
    · rename_i b hu
      have h1 := scV hx rfl
      simp only [relC, List.cons.injEq, and_true] at h1; subst h1
      simp [Instr.checkKey, run_underlying hu]
    · rename_i kk k a hu
      have h1 := scV hx rfl
      simp only [relC, List.cons.injEq, and_true] at h1; subst h1
      simp [Instr.checkKey, run_underlying hu]
    · rename_i a hu
      have h1 := scV hx rfl
      simp only [relC, List.cons.injEq, and_true] at h1; obtain ⟨rfl, _⟩ := h1
      simp [Instr.checkKey, run_underlying hu]
    · rename_i fs xs hu
      obtain ⟨h1, h1'⟩ := hx
      obtain ⟨cx, rfl⟩ := cells_agg h1'.symm
      simp only [relC, Value.cells] at h1
      have each := keyOks_each (g := g) (w := w) n h h1 (by simp)
      rw [Instr.checkKey]
      simp only [Sem.run_bind, run_underlying hu, Result.andThen_ok]
      rw [← Array.forIn_toList]
      clear h
      generalize fs.toList = L at each
      induction L with
      | nil => simp
      | cons f L ihL =>
        obtain ⟨hn, v, z, m, hm, hk, hz, hv⟩ := each f (by simp)
        have p2 := ih m (by omega) hk hv emp d (by omega) W
        simp only [List.forIn_cons, Sem.run_bind, hn, ne_eq, not_false_eq_true, if_true, Result.andThen_ok, hz, p2, Sem.run_pure]
        exact ihL (fun y hy => each y (by simp [hy]))
    · cases h

/-! Flat values: one reading of cells. -/
mutual
def AV.flat : AV → Bool
  | .bool _ | .int _ _ | .str _ => true
  | .agg ps => AV.flats ps
  | _ => false
def AV.flats : List AV → Bool
  | [] => true
  | p :: ps => p.flat && AV.flats ps
end
theorem keyOk_flat (n : Nat) : (∀ {t : TypeId} {x : AV}, keyOk P n t x = true → x.flat = true) ∧ (∀ {i : Nat} {fs : List Field} {xs ax : List AV}, keyOks P n i fs xs ax = true → AV.flats xs = true) := by
  induction n with
  | zero => exact ⟨fun h => by simp [keyOk] at h, fun h => by simp [keyOks] at h⟩
  | succ n ih =>
    refine ⟨fun {t x} h => ?_, fun {i fs xs ax} h => ?_⟩
    · simp only [keyOk] at h
      split at h
      · rfl
      · rfl
      · rfl
      · simp only [AV.flat]; exact ih.2 h
      · cases h
    · cases fs with
      | nil => cases xs with
        | nil => rfl
        | cons x xs => simp [keyOks] at h
      | cons f fs => cases xs with
        | nil => simp [keyOks] at h
        | cons x xs =>
          simp only [keyOks, Bool.and_eq_true] at h
          simp only [AV.flats, Bool.and_eq_true]
          exact ⟨ih.1 h.1.2, ih.2 h.2⟩

def simpleC : Value → Bool
  | .bool _ | .int _ _ | .string _ => true
  | _ => false
mutual
theorem flat_det : ∀ {x : AV} {c1 c2 : List Value}, x.flat = true → relC g w x c1 → relC g' w' x c2 → c1 = c2 ∧ ∀ c ∈ c1, simpleC c = true
  | .bool _, c1, c2, _, h1, h2 => by simp only [relC] at h1 h2; subst h1 h2; exact ⟨rfl, by simp [simpleC]⟩
  | .int _ _, c1, c2, _, h1, h2 => by simp only [relC] at h1 h2; subst h1 h2; exact ⟨rfl, by simp [simpleC]⟩
  | .str _, c1, c2, _, h1, h2 => by simp only [relC] at h1 h2; obtain ⟨rfl, _⟩ := h1; obtain ⟨rfl, _⟩ := h2; exact ⟨rfl, by simp [simpleC]⟩
  | .agg ps, c1, c2, hf, h1, h2 => by simp only [relC] at h1 h2; simp only [AV.flat] at hf; exact flats_det hf h1 h2
  | .undef, c1, c2, hf, h1, h2 | .ptr _, c1, c2, hf, h1, h2 | .slice _ _, c1, c2, hf, h1, h2 | .eptr _, c1, c2, hf, h1, h2 | .mp _, c1, c2, hf, h1, h2 | .arr _ _ _, c1, c2, hf, h1, h2 | .fn _ _ _, c1, c2, hf, h1, h2
  | .nilFn, c1, c2, hf, h1, h2 | .lit _, c1, c2, hf, h1, h2 | .dig _, c1, c2, hf, h1, h2 | .tuple _, c1, c2, hf, h1, h2 | .iface _ _, c1, c2, hf, h1, h2 | .nilIface, c1, c2, hf, h1, h2 => by simp [AV.flat] at hf
theorem flats_det : ∀ {ps : List AV} {c1 c2 : List Value}, AV.flats ps = true → relPs g w ps c1 → relPs g' w' ps c2 → c1 = c2 ∧ ∀ c ∈ c1, simpleC c = true
  | [], c1, c2, _, h1, h2 => by simp only [relPs] at h1 h2; subst h1 h2; simp
  | p :: ps, c1, c2, hf, h1, h2 => by
    simp only [relPs] at h1 h2
    simp only [AV.flats, Bool.and_eq_true] at hf
    obtain ⟨a1, a2, rfl, h3, h4⟩ := h1
    obtain ⟨b1, b2, rfl, h5, h6⟩ := h2
    obtain ⟨rfl, s1⟩ := flat_det hf.1 h3 h5
    obtain ⟨rfl, s2⟩ := flats_det hf.2 h4 h6
    exact ⟨rfl, fun c hc => (List.mem_append.1 hc).elim (s1 c) (s2 c)⟩
end
theorem simple_same {c : Value} (h : simpleC c = true) (n : Nat) : Instr.sameBits n c c = true := by
  cases c <;> simp_all [simpleC, Instr.sameBits, beq_toListBytes]
theorem same_same {x : AV} {X Y : Value} (hf : x.flat = true) (hX : isV g w x X) (hY : isV g' w' x Y) : X = Y ∧ Instr.sameBits 10000 X X = true := by
  obtain ⟨h1, h2⟩ := hX
  obtain ⟨h3, h4⟩ := hY
  obtain ⟨e, s⟩ := flat_det hf h1 h3
  cases ha : x.isAgg with
  | true =>
    rw [ha] at h2 h4
    obtain ⟨a, rfl⟩ := cells_agg h2.symm
    obtain ⟨b, rfl⟩ := cells_agg h4.symm
    simp only [Value.cells] at e s
    have : a = b := by apply Array.ext'; exact e
    subst this
    refine ⟨rfl, ?_⟩
    rw [show (10000 : Nat) = 9999 + 1 from rfl]
    simp only [Instr.sameBits, beq_self_eq_true, Bool.true_and, List.all_eq_true]
    rintro ⟨p, q⟩ hpq
    have hz : ∀ (l : List Value) (p q : Value), (p, q) ∈ l.zip l → p = q ∧ p ∈ l := by
      intro l
      induction l with
      | nil => simp
      | cons z l ih =>
        intro p q h
        simp only [List.zip_cons_cons, List.mem_cons, Prod.mk.injEq] at h
        rcases h with ⟨rfl, rfl⟩ | h
        · exact ⟨rfl, by simp⟩
        · exact ⟨(ih p q h).1, by simp [(ih p q h).2]⟩
    obtain ⟨rfl, hm⟩ := hz _ p q hpq
    exact simple_same (s p hm) 9999
  | false =>
    rw [ha] at h2 h4
    rw [cells_one h2.symm, cells_one h4.symm] at e
    rw [cells_one h2.symm] at s
    simp at e s
    exact ⟨e, simple_same s 10000⟩

theorem eqA_eq (n : Nat) : (∀ {t : TypeId} {x y : AV} {m k : Nat}, eqA P n t x y = some true → keyOk P m t x = true → keyOk P k t y = true → x = y) ∧
    (∀ {t : TypeId} {i m k : Nat} {fs : List Field} {xs ys ax ay : List AV}, eqAs P n t i fs xs ys ax ay = some true → keyOks P m i fs xs ax = true → keyOks P k i fs ys ay = true → xs = ys) := by
  induction n with
  | zero => exact ⟨fun h => by simp [eqA] at h, fun h => by simp [eqAs] at h⟩
  | succ n ih =>
    refine ⟨fun {t x y m k} h hx hy => ?_, fun {t i m k fs xs ys ax ay} h hx hy => ?_⟩
    · cases m with
      | zero => simp [keyOk] at hx
      | succ m =>
      cases k with
      | zero => simp [keyOk] at hy
      | succ k =>
      simp only [eqA] at h
      simp only [keyOk] at hx hy
      split at h
      · simp at h; rw [h]
      · split at h
        · rename_i hk; subst hk; simp at h; rw [h]
        · cases h
      · simp at h; rw [h]
      · rename_i hu
        rw [hu] at hx; simp at hx
      · rename_i hu
        rw [hu] at hx; simp at hx
      · rename_i fs xs ys hu
        simp only [hu] at hx hy
        split at h
        · rw [ih.2 h hx hy]
        · cases h
      · rename_i hu; simp [hu] at hx
      · rename_i hu; simp [hu] at hx
      · cases h
    · cases m with
      | zero => simp [keyOks] at hx
      | succ m =>
      cases k with
      | zero => simp [keyOks] at hy
      | succ k =>
      cases fs with
      | nil =>
        cases xs with
        | nil => cases ys with
          | nil => rfl
          | cons y ys => simp [keyOks] at hy
        | cons x xs => simp [keyOks] at hx
      | cons f fs =>
        cases xs with
        | nil => simp [keyOks] at hx
        | cons x xs => cases ys with
          | nil => simp [keyOks] at hy
          | cons y ys =>
            simp only [keyOks, Bool.and_eq_true] at hx hy
            simp only [eqAs] at h
            split at h
            · split at h
              · rename_i heq
                rw [ih.1 heq hx.1.2 hy.1.2, ih.2 h hx.2 hy.2]
              · simp at h
              · cases h
            · cases h
theorem eqK_true {kt : TypeId} {k k' : AV} (h : eqK P kt k k' = some true) (hk : keyOk P 40 kt k = true) : k = k' := by
  unfold eqK at h
  split at h
  · rename_i hk'; exact (eqA_eq 40).1 h hk hk'
  · cases h
theorem eqK_eqA {kt : TypeId} {k k' : AV} {b : Bool} (h : eqK P kt k k' = some b) : eqA P 40 kt k k' = some b := by
  unfold eqK at h
  split at h
  · exact h
  · cases h
end Go.Aff

namespace Go.Aff

variable {g g' : G} {w w' : World} {σ σ' : AST} {P : Program}

def resOf (l : List MapEntry) (i : Nat) (r : Option Nat) : Option (Nat × Value) := r.bind fun j => (l[j]?).map fun m => (i + j, m.val)
def keysR (g : G) (w : World) (es : List (Nat × AV × AV)) (l : List MapEntry) : Prop := es.length = l.length ∧ ∀ (j : Nat) e m, es[j]? = some e → l[j]? = some m → isV g w e.2.1 m.key
theorem keysR_cons {e : Nat × AV × AV} {es : List (Nat × AV × AV)} {m : MapEntry} {l : List MapEntry} (h : keysR g w (e :: es) (m :: l)) : isV g w e.2.1 m.key ∧ keysR g w es l :=
  ⟨h.2 0 e m rfl rfl, by have := h.1; simpa using this, fun j e' m' h1 h2 => h.2 (j + 1) e' m' (by simpa using h1) (by simpa using h2)⟩
theorem res_succ {m : MapEntry} {l : List MapEntry} {i : Nat} {r : Option Nat} : resOf (m :: l) i (r.map (· + 1)) = resOf l (i + 1) r := by
  cases r with
  | none => rfl
  | some j => simp [resOf, Nat.add_assoc, Nat.add_comm 1 j]
theorem eq_run {kt : TypeId} {k k' : AV} {X Y : Value} {b : Bool} (h : eqK P kt k k' = some b) (hk : isV g w k X) (hk' : isV g w k' Y) (W : World) : (Op.equal kt X Y).run P W = .ok b W :=
  eqA_sound 40 (eqK_eqA h) hk hk' Op.maxDepth (by decide) W
theorem asking_run {kt : TypeId} {k : AV} {X : Value} (hk : isV g w k X) : ∀ {es : List (Nat × AV × AV)} {l : List MapEntry} {i : Nat} {r : Option Nat}, keysR g w es l → findE P kt k es = some r →
    ∀ W, (Instr.findAsking kt X l i).run P W = .ok (resOf l i r) W
  | [], l, i, r, hR, h, W => by
    simp only [findE, Option.some.injEq] at h; subst h
    have : l = [] := List.eq_nil_of_length_eq_zero (by have := hR.1; simpa using this.symm)
    subst this; simp [Instr.findAsking, resOf]
  | e :: es, [], i, r, hR, h, W => by have := hR.1; simp at this
  | e :: es, m :: l, i, r, hR, h, W => by
    obtain ⟨hv, hR'⟩ := keysR_cons hR
    simp only [findE] at h
    split at h
    · rename_i heq
      simp only [Option.some.injEq] at h; subst h
      simp [Instr.findAsking, eq_run heq hk hv, resOf]
    · rename_i heq
      simp only [Option.map_eq_some_iff] at h
      obtain ⟨r', h1, rfl⟩ := h
      have ih := asking_run (i := i + 1) hk hR' h1 W
      rw [res_succ]
      simp [Instr.findAsking, eq_run heq hk hv, ih]
    · cases h
theorem run_equalIn_str (W : World) (d : Nat) (t : TypeId) (a b : ByteArray) (hu : P.underlying t = some .string) : (Op.equalIn (d + 1) t (.string a) (.string b)).run P W = .ok (a == b) W := by
  simp [Op.equalIn, run_underlying hu]
theorem sameNow_run {kt : TypeId} {d : TypeDesc} (hd : P.underlying kt = some d) {X Y : Value} {b : Bool} (h : Instr.sameNow d X Y = some b) (W : World) : (Op.equal kt X Y).run P W = .ok b W := by
  unfold Instr.sameNow at h
  split at h
  · split at h
    · rename_i hk; subst hk
      simp only [Option.some.injEq] at h; subst h
      exact run_equalIn_int W 9999 kt _ _ _ _ hd
    · cases h
  · rename_i a b'
    simp only [Option.some.injEq] at h; subst h
    exact run_equalIn_str W 9999 kt _ _ hd
  · simp only [Option.some.injEq] at h; subst h
    exact run_equalIn_bool W 9999 kt _ _ hd
  · cases h
theorem now_run {kt : TypeId} {d : TypeDesc} (hd : P.underlying kt = some d) {k : AV} {X : Value} (hk : isV g w k X) : ∀ {es : List (Nat × AV × AV)} {l : List MapEntry} {i : Nat} {r : Option Nat} {q : Option (Nat × Value)}, keysR g w es l → findE P kt k es = some r →
    Instr.findNow d X l i = some q → q = resOf l i r
  | [], l, i, r, q, hR, h, hq => by
    simp only [findE, Option.some.injEq] at h; subst h
    have : l = [] := List.eq_nil_of_length_eq_zero (by have := hR.1; simpa using this.symm)
    subst this; simp [Instr.findNow] at hq; simp [resOf, hq]
  | e :: es, [], i, r, q, hR, h, hq => by have := hR.1; simp at this
  | e :: es, m :: l, i, r, q, hR, h, hq => by
    obtain ⟨hv, hR'⟩ := keysR_cons hR
    simp only [findE] at h
    simp only [Instr.findNow] at hq
    have agree : ∀ {b b' : Bool}, Instr.sameNow d X m.key = some b → eqK P kt k e.2.1 = some b' → b = b' := fun h1 h2 => by
      have e1 := sameNow_run hd h1 default
      have e2 := eq_run h2 hk hv default
      rw [e1] at e2; simpa using e2
    split at h
    · rename_i heq
      simp only [Option.some.injEq] at h; subst h
      split at hq
      · simp only [Option.some.injEq] at hq; subst hq; simp [resOf]
      · rename_i hs; have := agree hs heq; cases this
      · cases hq
    · rename_i heq
      simp only [Option.map_eq_some_iff] at h
      obtain ⟨r', h1, rfl⟩ := h
      rw [res_succ]
      split at hq
      · rename_i hs; have := agree hs heq; cases this
      · exact now_run hd hk hR' h1 hq
      · cases hq
    · cases h
theorem key_run {kt : TypeId} {d : TypeDesc} (hd : P.underlying kt = some d) {k : AV} {X : Value} (hk : isV g w k X) {es : List (Nat × AV × AV)} {l : List MapEntry} {r : Option Nat} (hR : keysR g w es l) (h : findE P kt k es = some r) (W : World) :
    (Instr.findKey kt X l).run P W = .ok (resOf l 0 r) W := by
  simp only [Instr.findKey, Sem.run_bind, run_underlying hd, Result.andThen_ok]
  split
  · rename_i q hq
    rw [now_run hd hk hR h hq]; simp
  · exact asking_run hk hR h W
theorem findE_lt {kt : TypeId} {k : AV} : ∀ {es : List (Nat × AV × AV)} {j : Nat}, findE P kt k es = some (some j) → ∃ e, es[j]? = some e ∧ eqK P kt k e.2.1 = some true
  | [], j, h => by simp [findE] at h
  | e :: es, j, h => by
    simp only [findE] at h
    split at h
    · rename_i heq
      simp at h; subst h; exact ⟨e, rfl, heq⟩
    · simp only [Option.map_eq_some_iff] at h
      obtain ⟨r', h1, h2⟩ := h
      cases r' with
      | none => simp at h2
      | some j' =>
        simp at h2; subst h2
        obtain ⟨e', h3, h4⟩ := findE_lt h1
        exact ⟨e', by simpa using h3, h4⟩
    · cases h

theorem keyOk_known {n : Nat} {t : TypeId} {x : AV} (h : keyOk P n t x = true) : x.known = true := by
  cases n with
  | zero => simp [keyOk] at h
  | succ n => simp only [keyOk] at h; split at h <;> first | rfl | cases h
theorem keyOk_desc {n : Nat} {t : TypeId} {x : AV} (h : keyOk P n t x = true) : ∃ d, P.underlying t = some d := by
  cases n with
  | zero => simp [keyOk] at h
  | succ n => simp only [keyOk] at h; split at h <;> first | exact ⟨_, by assumption⟩ | cases h
theorem relV_mp {i : Nat} {x : Value} (h : relV g w (.mp (some i)) x) : ∃ b sh, g.objs[i]? = some (b, sh) ∧ x = .map (some b) := by
  have := (relV_scalar h rfl rfl).1; simpa [relC] using this
theorem relV_mpnil {x : Value} (h : relV g w (.mp none) x) : x = .map none := by
  have := (relV_scalar h rfl rfl).1; simpa [relC] using this
theorem obj_map (hI : Inv g σ w) {i : Nat} {es : List (Nat × AV × AV)} {ck : Nat} (h : σ.objs[i]? = some (.map es ck)) {b : Nat} {sh : Shape} (hg : g.objs[i]? = some (b, sh)) :
    g.base ≤ b ∧ g.lim b = none ∧ objIn g w b sh (.map es ck) := by
  obtain ⟨b1, sh1, h1, hb, hl, hin⟩ := hI.obj i _ h rfl
  rw [hg] at h1; cases h1
  exact ⟨hb, hl, hin⟩
theorem keysR_of {b : Nat} {sh : Shape} {es : List (Nat × AV × AV)} {ck : Nat} {me : Array MapEntry} (hl : es.length = me.size)
    (he : ∀ (i : Nat) e m, es[i]? = some e → me[i]? = some m → m.born = e.1 ∧ (relC g w e.2.1 m.key.cells.toList ∧ e.2.1.isAgg = vAgg m.key) ∧ (relC g w e.2.2 m.val.cells.toList ∧ e.2.2.isAgg = vAgg m.val)) : keysR g w es me.toList :=
  ⟨by simpa using hl, fun j e m h1 h2 => (he j e m h1 (by simpa using h2)).2.1⟩
theorem zero_isV {t : TypeId} {z : AV} (h : ZeroOf P t z) : ∃ v, (∀ W, (zeroValue t).run P W = .ok v W) ∧ isV g w z v ∧ z.known = true := by
  obtain ⟨i, v, h1, h2, h3, h4, h5⟩ := h
  refine ⟨v, fun W => by simp [zeroValue, typeInfo, h1, h2], ⟨conc_rel g w h3, h4⟩, ?_⟩
  cases z <;> simp_all [conc, AV.known]
theorem okV_rel {v : AV} {x : Value} (h : isV g w v x) (ok b : Bool) : relV g w (okV ok b v) (if ok then .tuple #[x, .bool b] else x) := by
  cases ok with
  | false => exact relV_of h.1 h.2
  | true =>
    refine .inr (.inl ⟨_, _, rfl, rfl, ?_⟩)
    simp only [relVs]
    exact ⟨x, _, rfl, h.1, h.2, .bool b, [], rfl, by simp [relC, Value.cells], rfl, rfl⟩
theorem lookup_does (hI : Inv g σ w) {t : TypeId} {x k : AV} {X Y : Value} {ok : Bool} {K : AV → AST → Prop} (hx : relV g w x X) (hk : relV g w k Y) (h : lookupW P σ t x k ok (fun v => K v σ)) :
    Does P g w (Instr.lookup t X Y ok) K := by
  obtain ⟨kt, et, hu, hko, h⟩ := h
  have hkV := isV_of hk (keyOk_known hko)
  obtain ⟨d, hd⟩ := keyOk_desc hko
  have hck : ∀ emp W, (Instr.checkKey emp 10000 kt Y).run P W = .ok () W := fun emp W => keyOk_run 40 hko hkV emp 10000 (by decide) W
  split at h
  · obtain rfl := relV_mpnil hx
    obtain ⟨v, hz, hv, _⟩ := zero_isV (g := g) (w := w) h.1
    have hf := key_run hd hkV (es := []) (l := []) (r := none) ⟨rfl, by simp⟩ rfl w
    refine ⟨_, w, g, _, σ, ?_, Ev.refl _ _, hI, okV_rel hv ok false, h.2⟩
    simp [Instr.lookup, run_underlying hu, hck, hf, resOf, hz]
  · rename_i i
    obtain ⟨b, sh, hg, rfl⟩ := relV_mp hx
    split at h
    · rename_i es ck hobj
      obtain ⟨_, _, me, hm, hl, he, _, _⟩ := obj_map hI hobj hg
      obtain ⟨r, hr, h⟩ := h
      have hf := key_run hd hkV (keysR_of (b := b) (sh := sh) (ck := ck) hl he) hr w
      split at h
      · rename_i j
        obtain ⟨e, hj, _⟩ := findE_lt hr
        have hjm : j < me.size := by rw [← hl]; exact (List.getElem?_eq_some_iff.1 hj).1
        have hv := (he j e me[j] hj (Array.getElem?_eq_getElem hjm)).2.2
        refine ⟨_, w, g, _, σ, ?_, Ev.refl _ _, hI, okV_rel hv ok true, h e hj⟩
        simp [Instr.lookup, run_underlying hu, run_getObj' hm, hck, hf, resOf, hjm]
      · obtain ⟨v, hz, hv, _⟩ := zero_isV (g := g) (w := w) h.1
        refine ⟨_, w, g, _, σ, ?_, Ev.refl _ _, hI, okV_rel hv ok false, h.2⟩
        simp [Instr.lookup, run_underlying hu, run_getObj' hm, hck, hf, resOf, hz]
    · exact h.elim
  · exact h.elim
end Go.Aff

namespace Go.Aff

variable {g g' : G} {w w' : World} {σ σ' : AST} {P : Program}

structure MapR (g : G) (w : World) (es : List (Nat × AV × AV)) (me : Array MapEntry) (ck : Nat) : Prop where
  len : es.length = me.size
  each : ∀ (i : Nat) e m, es[i]? = some e → me[i]? = some m → m.born = e.1 ∧ isV g w e.2.1 m.key ∧ isV g w e.2.2 m.val
  clock : ∀ e ∈ es, e.1 < ck
  nd : (es.map (·.1)).Nodup
theorem mapR_in {b : Nat} {sh : Shape} {es : List (Nat × AV × AV)} {ck : Nat} : objIn g w b sh (.map es ck) ↔ ∃ me : Array MapEntry, w.heap[b]? = some (.map me ck) ∧ MapR g w es me ck :=
  ⟨fun ⟨me, h1, h2, h3, h4, h5⟩ => ⟨me, h1, h2, h3, h4, h5⟩, fun ⟨me, h1, h2, h3, h4, h5⟩ => ⟨me, h1, h2, h3, h4, h5⟩⟩
theorem isV_mono (h : Ev g w g' w') {v : AV} {x : Value} (hv : isV g w v x) : isV g' w' v x := ⟨relC_mono h hv.1, hv.2⟩
theorem MapR.mono (h : Ev g w g' w') {es : List (Nat × AV × AV)} {me : Array MapEntry} {ck : Nat} (r : MapR g w es me ck) : MapR g' w' es me ck :=
  ⟨r.len, fun i e m h1 h2 => ⟨(r.each i e m h1 h2).1, isV_mono h (r.each i e m h1 h2).2.1, isV_mono h (r.each i e m h1 h2).2.2⟩, r.clock, r.nd⟩
theorem modify_map_fst {j : Nat} {f : Nat × AV × AV → Nat × AV × AV} (hf : ∀ e, (f e).1 = e.1) (es : List (Nat × AV × AV)) : (es.modify j f).map (·.1) = es.map (·.1) := by
  apply List.ext_getElem?
  intro i
  simp only [List.getElem?_map, List.getElem?_modify]
  cases es[i]? with
  | none => simp
  | some e => by_cases h : j = i <;> simp [h, hf]
theorem MapR.modify {es : List (Nat × AV × AV)} {me : Array MapEntry} {ck j : Nat} (r : MapR g w es me ck) {f : Nat × AV × AV → Nat × AV × AV} {F : MapEntry → MapEntry} (hf : ∀ e, (f e).1 = e.1)
    (hF : ∀ e m, es[j]? = some e → me[j]? = some m → (F m).born = (f e).1 ∧ isV g w (f e).2.1 (F m).key ∧ isV g w (f e).2.2 (F m).val) : MapR g w (es.modify j f) (me.modify j F) ck := by
  refine ⟨by simp [r.len], fun i e m h1 h2 => ?_, fun e he => ?_, by rw [modify_map_fst hf]; exact r.nd⟩
  · rw [List.getElem?_modify] at h1
    rw [Array.getElem?_modify] at h2
    cases hes : es[i]? with
    | none => simp [hes] at h1
    | some e0 =>
    cases hme : me[i]? with
    | none => simp [hme] at h2
    | some m0 =>
    simp only [hes, Option.map_eq_map, Option.map_some, Option.some.injEq] at h1
    simp only [hme, Option.map_some] at h2
    by_cases h : j = i
    · subst h
      simp at h1 h2
      subst h1 h2
      exact hF e0 m0 hes hme
    · simp [h] at h1 h2
      subst h1 h2
      exact r.each i e0 m0 hes hme
  · have h1 : e.1 ∈ (es.modify j f).map (·.1) := List.mem_map.2 ⟨e, he, rfl⟩
    rw [modify_map_fst hf] at h1
    obtain ⟨e0, h2, h3⟩ := List.mem_map.1 h1
    rw [← h3]; exact r.clock e0 h2
theorem MapR.push {es : List (Nat × AV × AV)} {me : Array MapEntry} {ck : Nat} (r : MapR g w es me ck) {k v : AV} {m : MapEntry} (hb : m.born = ck) (hk : isV g w k m.key) (hv : isV g w v m.val) :
    MapR g w (es ++ [(ck, k, v)]) (me.push m) (ck + 1) := by
  refine ⟨by simp [r.len], fun i e m' h1 h2 => ?_, fun e he => ?_, ?_⟩
  · rw [List.getElem?_append] at h1
    rw [Array.getElem?_push] at h2
    by_cases h : i < es.length
    · rw [if_pos h] at h1; rw [if_neg (by rw [← r.len]; omega)] at h2; exact r.each i e m' h1 h2
    · rw [if_neg h] at h1
      have hi : i - es.length = 0 := by
        have := (List.getElem?_eq_some_iff.1 h1).1; simp at this; omega
      rw [if_pos (by rw [← r.len]; omega)] at h2
      rw [hi] at h1; simp at h1 h2
      subst h1 h2
      exact ⟨hb, hk, hv⟩
  · rcases List.mem_append.1 he with he | he
    · have := r.clock e he; omega
    · simp at he; subst he; simp
  · rw [List.map_append, List.nodup_append]
    refine ⟨r.nd, by simp, fun a ha b hb' => ?_⟩
    simp at hb'; subst hb'
    obtain ⟨e, he, rfl⟩ := List.mem_map.1 ha
    have := r.clock e he; omega
theorem MapR.erase {es : List (Nat × AV × AV)} {me : Array MapEntry} {ck j : Nat} (r : MapR g w es me ck) (hj : j < es.length) : MapR g w (es.eraseIdx j) (me.eraseIdxIfInBounds j) ck := by
  have hm : j < me.size := by rw [← r.len]; exact hj
  have e0 : me.eraseIdxIfInBounds j = me.eraseIdx j hm := by simp [Array.eraseIdxIfInBounds, hm]
  rw [e0]
  refine ⟨by rw [List.length_eraseIdx, if_pos hj, Array.size_eraseIdx, r.len], fun i e m h1 h2 => ?_, fun e he => r.clock e (List.mem_of_mem_eraseIdx he), ?_⟩
  · rw [List.getElem?_eraseIdx] at h1
    rw [Array.getElem?_eraseIdx] at h2
    by_cases h : i < j
    · rw [if_pos h] at h1 h2; exact r.each i e m h1 h2
    · rw [if_neg h] at h1 h2; exact r.each _ e m h1 h2
  · have : (es.eraseIdx j).map (·.1) = (es.map (·.1)).eraseIdx j := by
      apply List.ext_getElem?
      intro i
      simp only [List.getElem?_map, List.getElem?_eraseIdx]
      split <;> rfl
    rw [this]
    exact r.nd.sublist (List.eraseIdx_sublist ..)
theorem MapR.empty {ck : Nat} : MapR g w [] #[] ck := ⟨rfl, fun i e m h => by simp at h, fun e h => by simp at h, by simp⟩

theorem inv_setMap (hI : Inv g σ w) {i b ck : Nat} {sh : Shape} {es : List (Nat × AV × AV)} (hobj : σ.objs[i]? = some (.map es ck)) (hg : g.objs[i]? = some (b, sh)) {es' : List (Nat × AV × AV)} {me' : Array MapEntry} {ck' : Nat} (r : MapR g w es' me' ck') :
    Ev g w g (setBlk w b (.map me' ck')) ∧ Inv g (σ.set i (.map es' ck')) (setBlk w b (.map me' ck')) := by
  obtain ⟨hb, hlim, hin⟩ := obj_map hI hobj hg
  obtain ⟨me, hm, _⟩ := mapR_in.1 hin
  have hE := ev_obj (o := .map me' ck') hI hb hlim
  exact inv_setObj hI hobj rfl hg (mapR_in.2 ⟨me', setBlk_same (lt_of_blk hm), r.mono hE⟩)

theorem mapUpdate_does (hI : Inv g σ w) {t : TypeId} {m k v : AV} {M Y V : Value} {K : AST → Prop} (hm : relV g w m M) (hk : relV g w k Y) (hv : relV g w v V) (h : mapUpdateW P σ t m k v K) :
    DoesU P g w (Instr.mapUpdate t M Y V) K := by
  obtain ⟨kt, et, hu, hko, hvk, h⟩ := h
  have hkV := isV_of hk (keyOk_known hko)
  have hvV := isV_of hv hvk
  obtain ⟨d, hd⟩ := keyOk_desc hko
  have hck : ∀ emp W, (Instr.checkKey emp 10000 kt Y).run P W = .ok () W := fun emp W => keyOk_run 40 hko hkV emp 10000 (by decide) W
  split at h
  · rename_i i
    obtain ⟨b, sh, hg, rfl⟩ := relV_mp hm
    split at h
    · rename_i es ck hobj
      obtain ⟨hb, hlim, hin⟩ := obj_map hI hobj hg
      obtain ⟨me, hme, hR⟩ := mapR_in.1 hin
      obtain ⟨r, hr, h⟩ := h
      have hf := key_run hd hkV (keysR_of (b := b) (sh := sh) (ck := ck) hR.len hR.each) hr w
      split at h
      · rename_i j
        obtain ⟨e, hj, heq⟩ := findE_lt hr
        have hjm : j < me.size := by rw [← hR.len]; exact (List.getElem?_eq_some_iff.1 hj).1
        have he := hR.each j e me[j] hj (Array.getElem?_eq_getElem hjm)
        obtain ⟨e1, e2⟩ := same_same (keyOk_flat 40 |>.1 hko) (eqK_true heq hko ▸ he.2.1) hkV
        obtain ⟨hE, hI'⟩ := inv_setMap hI hobj hg (hR.modify (j := j) (f := fun e => (e.1, k, v)) (F := fun e => { e with key := Y, val := V }) (fun _ => rfl) fun e' m' h1 h2 => ⟨(hR.each j e' m' h1 h2).1, hkV, hvV⟩)
        refine ⟨_, g, _, ?_, hE, hI', h⟩
        have e2' : Instr.sameBits 10000 me[j].key Y = true := by rw [← e1]; exact e2
        simp [Instr.mapUpdate, run_underlying hu, run_getObj' hme, hck, hf, resOf, hjm, Instr.keyThatStays, e2', run_setObj' hme]
      · obtain ⟨hE, hI'⟩ := inv_setMap hI hobj hg (hR.push (m := { key := Y, val := V, born := ck }) rfl hkV hvV)
        refine ⟨_, g, _, ?_, hE, hI', h⟩
        simp [Instr.mapUpdate, run_underlying hu, run_getObj' hme, hck, hf, resOf, run_setObj' hme]
    · exact h.elim
  · exact h.elim

theorem mapEntry_does (hI : Inv g σ w) {t : TypeId} {m k : AV} {M Y : Value} {K : AV → AST → Prop} (hm : relV g w m M) (hk : relV g w k Y) (h : mapEntryW P σ t m k K) :
    Does P g w (Instr.mapEntry t M Y) K := by
  obtain ⟨kt, et, hu, hko, h⟩ := h
  have hkV := isV_of hk (keyOk_known hko)
  obtain ⟨d, hd⟩ := keyOk_desc hko
  have hck : ∀ emp W, (Instr.checkKey emp 10000 kt Y).run P W = .ok () W := fun emp W => keyOk_run 40 hko hkV emp 10000 (by decide) W
  have tup : ∀ {g : G} {w : World} {v : AV} {x : Value} {n : Nat}, isV g w v x → relV g w (.tuple [v, .int .i64 n]) (.tuple #[x, goInt n]) := fun h => by
    refine .inr (.inl ⟨_, _, rfl, rfl, ?_⟩)
    simp only [relVs]
    exact ⟨_, _, rfl, h.1, h.2, _, [], rfl, by simp [relC, Value.cells, goInt], rfl, rfl⟩
  split at h
  · rename_i i
    obtain ⟨b, sh, hg, rfl⟩ := relV_mp hm
    split at h
    · rename_i es ck hobj
      obtain ⟨hb, hlim, hin⟩ := obj_map hI hobj hg
      obtain ⟨me, hme, hR⟩ := mapR_in.1 hin
      obtain ⟨r, hr, h⟩ := h
      have hf := key_run hd hkV (keysR_of (b := b) (sh := sh) (ck := ck) hR.len hR.each) hr w
      split at h
      · rename_i j
        obtain ⟨e, hj, heq⟩ := findE_lt hr
        have hjm : j < me.size := by rw [← hR.len]; exact (List.getElem?_eq_some_iff.1 hj).1
        have he := hR.each j e me[j] hj (Array.getElem?_eq_getElem hjm)
        obtain ⟨e1, e2⟩ := same_same (keyOk_flat 40 |>.1 hko) (eqK_true heq hko ▸ he.2.1) hkV
        obtain ⟨hE, hI'⟩ := inv_setMap hI hobj hg (hR.modify (j := j) (f := fun e => (e.1, k, e.2.2)) (F := fun e => { e with key := Y }) (fun _ => rfl) fun e' m' h1 h2 => ⟨(hR.each j e' m' h1 h2).1, hkV, (hR.each j e' m' h1 h2).2.2⟩)
        refine ⟨_, _, g, _, _, ?_, hE, hI', tup (isV_mono hE he.2.2), h e hj⟩
        have e2' : Instr.sameBits 10000 me[j].key Y = true := by rw [← e1]; exact e2
        simp [Instr.mapEntry, run_underlying hu, run_getObj' hme, hck, hf, resOf, hjm, Instr.keyThatStays, e2', run_setObj' hme, he.1]
      · obtain ⟨v, hz, hv, _⟩ := zero_isV (g := g) (w := w) h.1
        obtain ⟨hE, hI'⟩ := inv_setMap hI hobj hg (hR.push (m := { key := Y, val := v, born := ck }) rfl hkV hv)
        refine ⟨_, _, g, _, _, ?_, hE, hI', tup (isV_mono hE hv), h.2⟩
        simp [Instr.mapEntry, run_underlying hu, run_getObj' hme, hck, hf, resOf, run_setObj' hme, hz]
    · exact h.elim
  · exact h.elim

theorem nodup_idx {es : List (Nat × AV × AV)} (h : (es.map (·.1)).Nodup) {i j : Nat} {e e' : Nat × AV × AV} (hi : es[i]? = some e) (hj : es[j]? = some e') (he : e.1 = e'.1) : i = j := by
  have h1 : (es.map (·.1))[i]? = some e.1 := by simp [hi]
  have h2 : (es.map (·.1))[j]? = some e.1 := by simp [hj, he]
  have hil := (List.getElem?_eq_some_iff.1 h1).1
  exact (List.getElem?_inj hil h).1 (by rw [h1, h2])

theorem entryStore_does (hI : Inv g σ w) {t : TypeId} {m st v : AV} {M S V : Value} {K : AST → Prop} (hm : relV g w m M) (hs : relV g w st S) (hv : relV g w v V) (h : entryStoreW σ m st v K) :
    DoesU P g w (Instr.entryStore t M S V) K := by
  obtain ⟨hvk, h⟩ := h
  have hvV := isV_of hv hvk
  split at h
  · rename_i i kk bn
    obtain ⟨b, sh, hg, rfl⟩ := relV_mp hm
    have hS := relV_int hs
    subst hS
    split at h
    · rename_i es ck hobj
      obtain ⟨hb, hlim, hin⟩ := obj_map hI hobj hg
      obtain ⟨me, hme, hR⟩ := mapR_in.1 hin
      obtain ⟨j, e, hj, hbn, h⟩ := h
      have hjm : j < me.size := by rw [← hR.len]; exact (List.getElem?_eq_some_iff.1 hj).1
      have he := hR.each j e me[j] hj (Array.getElem?_eq_getElem hjm)
      have hfind : me.findIdx? (fun e => (e.born : Int) == bn) = some j := by
        rw [Array.findIdx?_eq_some_iff_getElem]
        refine ⟨hjm, by simp [he.1, hbn], fun q hq => ?_⟩
        have hqe : q < es.length := by rw [hR.len]; omega
        have hq' := hR.each q es[q] me[q] (List.getElem?_eq_getElem hqe) (Array.getElem?_eq_getElem (by omega))
        simp only [beq_iff_eq, hq'.1]
        intro hc
        have : q = j := nodup_idx hR.nd (List.getElem?_eq_getElem hqe) hj (by omega)
        omega
      obtain ⟨hE, hI'⟩ := inv_setMap hI hobj hg (hR.modify (j := j) (f := fun e => (e.1, e.2.1, v)) (F := fun e => { e with val := V }) (fun _ => rfl) fun e' m' h1 h2 => ⟨(hR.each j e' m' h1 h2).1, (hR.each j e' m' h1 h2).2.1, hvV⟩)
      refine ⟨_, g, _, ?_, hE, hI', h⟩
      simp [Instr.entryStore, run_getObj' hme, asInt, asIntOf, hfind, run_setObj' hme]
    · exact h.elim
  · exact h.elim

theorem setMap_self {i : Nat} {o : AObj} (hobj : σ.objs[i]? = some o) : σ.set i o = σ := by
  have : σ.objs.set i o = σ.objs := by
    apply List.ext_getElem?
    intro j
    rw [List.getElem?_set]
    by_cases h : i = j
    · subst h; rw [if_pos rfl, hobj]; have := (List.getElem?_eq_some_iff.1 hobj).1; simp [this]
    · rw [if_neg h]
  simp only [AST.set, this]
theorem delete_does (hI : Inv g σ w) {ts : Array TypeId} {ty : TypeId} {m k : AV} {M Y : Value} {K : AV → AST → Prop} (hm : relV g w m M) (hk : relV g w k Y) (h : deleteW P ts m k σ (K (.tuple []))) :
    Does P g w (Builtin.delete_ ts ty #[M, Y]) K := by
  obtain ⟨t, kt, et, ht, hu, hko, h⟩ := h
  have hkV := isV_of hk (keyOk_known hko)
  obtain ⟨d, hd⟩ := keyOk_desc hko
  have hck : ∀ emp W, (Instr.checkKey emp 10000 kt Y).run P W = .ok () W := fun emp W => keyOk_run 40 hko hkV emp 10000 (by decide) W
  have tup : ∀ {g : G} {w : World}, relV g w (.tuple []) (.tuple #[]) := .inr (.inl ⟨_, _, rfl, rfl, by simp [relVs]⟩)
  split at h
  · obtain rfl := relV_mpnil hm
    refine ⟨_, w, g, _, σ, ?_, Ev.refl _ _, hI, tup, h⟩
    simp [Builtin.delete_, ht, run_underlying hu, hck]
  · rename_i i
    obtain ⟨b, sh, hg, rfl⟩ := relV_mp hm
    split at h
    · rename_i es ck hobj
      obtain ⟨hb, hlim, hin⟩ := obj_map hI hobj hg
      obtain ⟨me, hme, hR⟩ := mapR_in.1 hin
      obtain ⟨r, hr, h⟩ := h
      have hf := key_run hd hkV (keysR_of (b := b) (sh := sh) (ck := ck) hR.len hR.each) hr w
      split at h
      · rename_i j
        obtain ⟨e, hj, _⟩ := findE_lt hr
        have hje := (List.getElem?_eq_some_iff.1 hj).1
        have hjm : j < me.size := by rw [← hR.len]; exact hje
        obtain ⟨hE, hI'⟩ := inv_setMap hI hobj hg (hR.erase hje)
        refine ⟨_, _, g, _, _, ?_, hE, hI', tup, h⟩
        simp [Builtin.delete_, ht, run_underlying hu, run_getObj' hme, hck, hf, resOf, hjm, run_setObj' hme]
      · obtain ⟨hE, hI'⟩ := inv_setMap hI hobj hg hR
        rw [setMap_self hobj] at hI'
        refine ⟨_, _, g, _, σ, ?_, hE, hI', tup, h⟩
        simp [Builtin.delete_, ht, run_underlying hu, run_getObj' hme, hck, hf, resOf, run_setObj' hme]
    · exact h.elim
  · exact h.elim
theorem clear_does (hI : Inv g σ w) {ts : Array TypeId} {ty : TypeId} {m : AV} {M : Value} {K : AV → AST → Prop} (hm : relV g w m M) (h : clearW P ts m σ (K (.tuple []))) :
    Does P g w (Builtin.clear_ ts ty #[M]) K := by
  obtain ⟨⟨t, u, ht, hu⟩, h⟩ := h
  have tup : ∀ {g : G} {w : World}, relV g w (.tuple []) (.tuple #[]) := .inr (.inl ⟨_, _, rfl, rfl, by simp [relVs]⟩)
  split at h
  · obtain rfl := relV_mpnil hm
    refine ⟨_, w, g, _, σ, ?_, Ev.refl _ _, hI, tup, h⟩
    simp [Builtin.clear_, ht, run_underlying hu]
  · rename_i i
    obtain ⟨b, sh, hg, rfl⟩ := relV_mp hm
    split at h
    · rename_i es ck hobj
      obtain ⟨hb, hlim, hin⟩ := obj_map hI hobj hg
      obtain ⟨me, hme, hR⟩ := mapR_in.1 hin
      obtain ⟨hE, hI'⟩ := inv_setMap (es' := []) (me' := #[]) (ck' := ck) hI hobj hg MapR.empty
      refine ⟨_, _, g, _, _, ?_, hE, hI', tup, h⟩
      simp [Builtin.clear_, ht, run_underlying hu, run_getObj' hme, run_setObj' hme]
    · exact h.elim
  · exact h.elim
theorem makeMap_does (hI : Inv g σ w) {t : TypeId} {K : AV → AST → Prop} (h : K (.mp (some σ.objs.length)) (σ.push (.map [] 0))) : Does P g w (Instr.makeMap t none) K := by
  obtain ⟨hE, hI'⟩ := inv_push (o := .map [] 0) (B := .map #[] 0) (sh := .leaf) hI fun g' _ => mapR_in.2 ⟨#[], alloc_new, MapR.empty⟩
  refine ⟨.map (some w.heap.size), w.alloc (.map #[] 0), _, _, _, ?_, hE, hI', relV_of ?_ rfl, h⟩
  · simp [Instr.makeMap]
  · simp only [relC, Value.cells]
    exact ⟨w.heap.size, .leaf, by rw [hI.nobj]; simp, rfl⟩
end Go.Aff

namespace Go.Aff

variable {g g' : G} {w w' : World} {σ σ' : AST} {P : Program}

theorem wrap64 {n : Int} (h0 : -9223372036854775808 ≤ n) (h1 : n ≤ 9223372036854775807) : IntKind.i64.wrap n = n := by
  simp only [IntKind.wrap, IntKind.signed, IntKind.bits]
  have e : (2 : Int) ^ 64 = 18446744073709551616 := by decide
  have e' : (2 : Int) ^ (64 - 1) = 9223372036854775808 := by decide
  simp only [e, e']
  try simp
  try omega
theorem range_flat (zl : List Value) (hz : 0 < zl.length) : ∀ n : Nat, (List.range (n * zl.length)).map (fun i => zl.toArray[i % zl.length]!) = (List.replicate n zl).flatten
  | 0 => by simp
  | n + 1 => by
    rw [Nat.add_mul, Nat.one_mul, List.range_add, List.map_append, range_flat zl hz n, List.replicate_succ', List.flatten_append]
    congr 1
    simp only [List.map_map, List.flatten_cons, List.flatten_nil, List.append_nil]
    apply List.ext_getElem?
    intro i
    simp only [List.getElem?_map, List.getElem?_range]
    by_cases h : i < zl.length
    · rw [List.getElem?_range h]
      have h1 : (n * zl.length + i) % zl.length = i := by rw [Nat.mul_comm, Nat.mul_add_mod, Nat.mod_eq_of_lt h]
      simp [h1, h]
    · rw [List.getElem?_eq_none (by simp; omega), List.getElem?_eq_none (by omega)]; rfl
theorem relPs_rep {z : AV} {zl : List Value} (h : relC g w z zl) : ∀ n : Nat, relPs g w (List.replicate n z) (List.replicate n zl).flatten
  | 0 => by simp [relPs]
  | n + 1 => by
    simp only [List.replicate_succ, List.flatten_cons, relPs]
    exact ⟨zl, _, rfl, h, relPs_rep h n⟩
theorem relEs_rep {z : AV} {zl : List Value} (h : relC g w z zl) : ∀ n : Nat, relEs g w zl.length (List.replicate n z) (List.replicate n zl).flatten
  | 0 => by simp [relEs]
  | n + 1 => by
    simp only [List.replicate_succ, List.flatten_cons, relEs]
    exact ⟨zl, _, rfl, rfl, h, relEs_rep h n⟩
theorem makeSlice_does (hI : Inv g σ w) {t : TypeId} {n c : AV} {N C : Value} {K : AV → AST → Prop} (hn : relV g w n N) (hc : relV g w c C) (h : makeSliceW P t n c σ K) : Does P g w (Instr.makeSlice t N C) K := by
  unfold makeSliceW at h
  split at h
  · rename_i a b
    obtain rfl := relV_int hn
    obtain rfl := relV_int hc
    obtain ⟨h0, hab, e, z, hu, hz, hpos, hroom, hbm, h⟩ := h
    obtain ⟨i, zv, hi, hzv, hconc, hag, hsz⟩ := hz
    have hcellsz : zv.cells.size = P.cellsOf e := by
      have := relC_size (conc_rel g w hconc)
      simp only [Array.length_toList] at this
      rw [this, ← hsz]; simp [Program.cellsOf, hi]
    have hib : i.bytes = P.bytesOf e := by simp [Program.bytesOf, hi]
    have his : i.size = P.cellsOf e := by simp [Program.cellsOf, hi]
    have hzr : ∀ W, (zeroValue e).run P W = .ok zv W := fun W => by simp [zeroValue, typeInfo, hi, hzv]
    have wa : IntKind.i64.wrap a = a := wrap64 (by omega) (by omega)
    have wb : IntKind.i64.wrap b = b := wrap64 (by omega) (by omega)
    have hbn : (b.toNat : Int) = b := Int.toNat_of_nonneg (by omega)
    have hbb : (P.bytesOf e : Int) * b ≤ 16777216 := by
      have e1 : (P.bytesOf e : Int) * b = ((b.toNat * P.bytesOf e : Nat) : Int) := by rw [Int.natCast_mul, hbn, Int.mul_comm]
      rw [e1]; omega
    let cells : Array Value := (Array.range (b.toNat * P.cellsOf e)).map (zv.cells[· % zv.cells.size]!)
    have hcl : cells.toList = (List.replicate b.toNat zv.cells.toList).flatten := by
      have := range_flat zv.cells.toList (by simp [hcellsz, hpos]) b.toNat
      rw [← this]
      simp [cells, hcellsz, Array.toList_range]
    have hcs : cells.size = b.toNat * P.cellsOf e := by simp [cells]
    have hrun : (Instr.makeSlice t (.int .i64 a) (.int .i64 b)).run P w = .ok (.slice (some ⟨w.heap.size, 0, none⟩) a.toNat b.toNat) (w.alloc (.cells cells e)) := by
      have n1 : ¬ (b < 0 ∨ (2 ^ 48 : Int) < i.bytes * b) := by rw [hib]; omega
      have n2 : ¬ a < 0 := by omega
      have n3 : ¬ b < a := by omega
      have n4 : ¬ b < 0 := by omega
      have n5 : ¬ ((2 ^ 48 : Int) < i.bytes * b) := fun h => n1 (.inr h)
      have n6 : ¬ (b.toNat * i.bytes > roomBytes) := by rw [hib]; unfold roomBytes; omega
      by_cases hz0 : b.toNat * P.cellsOf e = 0
      · have hce : cells = #[] := by apply Array.eq_empty_of_size_eq_zero; omega
        have hb0 : b.toNat = 0 := by
          rcases Nat.mul_eq_zero.1 hz0 with h | h
          · exact h
          · omega
        have hbz : b = 0 := by omega
        subst hbz
        have haz : a = 0 := by omega
        subst haz
        have e0 : ∀ f : Nat → Value, Array.map f (Array.range 0) = #[] := fun f => by apply Array.ext'; simp
        simp [Instr.makeSlice, run_underlying hu, asInt, asIntOf, typeInfo, hi, wa, wb, askRoom, newRow, sizeOf, his, e0, hce]
      · simp [Instr.makeSlice, run_underlying hu, asInt, asIntOf, typeInfo, hi, wa, wb, n2, n3, n4, n5, n6, askRoom, sizeOf, his, hz0, hzr, newRow]
        rw [if_neg (by rw [hib]; omega)]
    have main : ∀ tk : Tk, tk = .full → a = b → K (.slice tk (List.replicate a.toNat z)) σ → Does P g w (Instr.makeSlice t (.int .i64 a) (.int .i64 b)) K := by
      rintro tk rfl rfl hK
      have hes := relEs_rep (conc_rel g w hconc) a.toNat
      rw [← hcl] at hes
      obtain ⟨hE, hI'⟩ := inv_row (c := cells) (e := e) (fr := (0, 0)) (n := cells.size) hI (Nat.le_refl _)
      refine ⟨_, _, _, _, σ, hrun, hE, hI', relV_of ?_ rfl, hK⟩
      simp only [relC, Value.cells]
      refine ⟨some (mkAddr (w.heap.size, 0)), some (w.heap.size, 0), a.toNat, zv.cells.toList.length, cells.toList, by simp [mkAddr], .inl rfl, relEs_mono hE hes, by simp, by unfold maxL; omega, (fun h => by cases h), (fun b o hbo => .inr ?_), ?_⟩
      · simp only [Option.some.injEq, Prod.mk.injEq] at hbo
        obtain ⟨rfl, rfl⟩ := hbo
        exact ⟨⟨cells, e, (0, 0), alloc_new, fun j hj => by simp⟩, .inr ⟨cells.size, by simp [G.row], by simp⟩⟩
      · simp [tkOk]
    rcases h with ⟨rfl, hK⟩ | ⟨rfl, hK⟩ | ⟨rfl, hK⟩
    · have hps := relPs_rep (conc_rel g w hconc) a.toNat
      rw [← hcl] at hps
      have hin : ∀ g', Ev g w g' (w.alloc (.cells cells e)) → objIn g' (w.alloc (.cells cells e)) w.heap.size (AV.agg (List.replicate a.toNat z)).shape (.cells (.agg (List.replicate a.toNat z))) :=
        fun g' hE => ⟨_, _, alloc_new, relC_mono hE (by simp only [relC]; exact hps), rfl⟩
      obtain ⟨hE, hI'⟩ := inv_push hI hin
      refine ⟨_, _, _, .arr σ.objs.length [] a.toNat, _, hrun, hE, hI', relV_of ?_ rfl, hK⟩
      simp only [relC, Value.cells]
      exact ⟨w.heap.size, (AV.agg (List.replicate a.toNat z)).shape, 0, a.toNat, by rw [hI.nobj]; simp, by simp [AV.shape, Shape.off], rfl, Nat.le_refl _, by unfold maxL; omega⟩
    · exact main .full rfl rfl hK
    · obtain ⟨hE1, hI1⟩ := inv_row (c := cells) (e := e) (fr := (0, 0)) (n := 0) hI (Nat.zero_le _)
      obtain ⟨hE2, hI2⟩ := inv_tok hI1 ⟨some (w.heap.size, 0), 0, b.toNat, P.cellsOf e⟩ (Nat.zero_le _) (by simp only; unfold maxL; omega) (by simp) (by
        intro b' o' hbo hlt
        simp only [Option.some.injEq, Prod.mk.injEq] at hbo
        obtain ⟨rfl, rfl⟩ := hbo
        refine ⟨by simp [G.row], ⟨cells, e, (0, 0), alloc_new, by simp [hcs], .inl rfl⟩, ?_⟩
        intro t' e' ht o'' ha hlt'
        obtain ⟨_, _, _, _, h5⟩ := hI.tok t' e' ht
        obtain ⟨_, c2, el2, fr2, hc2, _⟩ := h5 _ _ ha hlt'
        have := lt_of_blk hc2
        omega)
      refine ⟨_, _, _, .slice (.own σ.toks.length) [], _, hrun, hE1.trans hE2, hI2, relV_of ?_ rfl, hK⟩
      simp only [relC, Value.cells]
      refine ⟨some (mkAddr (w.heap.size, 0)), some (w.heap.size, 0), b.toNat, P.cellsOf e, [], by simp [mkAddr], .inl rfl, by simp [relEs], by simp, by unfold maxL; omega, (fun h => by cases h), (fun b o hbo => .inl rfl), ?_⟩
      exact ⟨⟨some (w.heap.size, 0), 0, b.toNat, P.cellsOf e⟩, by rw [hI.ntok]; simp [G.row], by simp, fun _ => ⟨rfl, rfl⟩, .inl rfl⟩
  · exact h.elim

/-! ### Weaker ends -/
theorem lookupW_mono {t : TypeId} {x k : AV} {ok : Bool} {K K' : AV → Prop} (hk : ∀ v, K v → K' v) (h : lookupW P σ t x k ok K) : lookupW P σ t x k ok K' := by
  obtain ⟨kt, et, h1, h2, h⟩ := h
  refine ⟨kt, et, h1, h2, ?_⟩
  split at h
  · exact ⟨h.1, hk _ h.2⟩
  · rename_i i
    cases ho : σ.objs[i]? with
    | none => simp [ho] at h
    | some o =>
      cases o with
      | map es ck =>
        simp only [ho] at h ⊢
        obtain ⟨r, hr, h⟩ := h
        refine ⟨r, hr, ?_⟩
        cases r with
        | none => exact ⟨h.1, hk _ h.2⟩
        | some j => exact fun e he => hk _ (h e he)
      | _ => simp [ho] at h
  · exact h.elim
theorem mapUpdateW_mono {t : TypeId} {m k v : AV} {K K' : AST → Prop} (hk : ∀ s, K s → K' s) (h : mapUpdateW P σ t m k v K) : mapUpdateW P σ t m k v K' := by
  obtain ⟨kt, et, h1, h2, h3, h⟩ := h
  refine ⟨kt, et, h1, h2, h3, ?_⟩
  split at h
  · rename_i i
    cases ho : σ.objs[i]? with
    | none => simp [ho] at h
    | some o =>
      cases o with
      | map es ck =>
        simp only [ho] at h ⊢
        obtain ⟨r, hr, h⟩ := h
        refine ⟨r, hr, ?_⟩
        cases r with
        | none => exact hk _ h
        | some j => exact hk _ h
      | _ => simp [ho] at h
  · exact h.elim
theorem mapEntryW_mono {t : TypeId} {m k : AV} {K K' : AV → AST → Prop} (hk : ∀ v s, K v s → K' v s) (h : mapEntryW P σ t m k K) : mapEntryW P σ t m k K' := by
  obtain ⟨kt, et, h1, h2, h⟩ := h
  refine ⟨kt, et, h1, h2, ?_⟩
  split at h
  · rename_i i
    cases ho : σ.objs[i]? with
    | none => simp [ho] at h
    | some o =>
      cases o with
      | map es ck =>
        simp only [ho] at h ⊢
        obtain ⟨r, hr, h⟩ := h
        refine ⟨r, hr, ?_⟩
        cases r with
        | none => exact ⟨h.1, hk _ _ h.2⟩
        | some j => exact fun e he => hk _ _ (h e he)
      | _ => simp [ho] at h
  · exact h.elim
theorem entryStoreW_mono {m st v : AV} {K K' : AST → Prop} (hk : ∀ s, K s → K' s) (h : entryStoreW σ m st v K) : entryStoreW σ m st v K' := by
  obtain ⟨h1, h⟩ := h
  refine ⟨h1, ?_⟩
  split at h
  · rename_i i k b
    cases ho : σ.objs[i]? with
    | none => simp [ho] at h
    | some o =>
      cases o with
      | map es ck =>
        simp only [ho] at h ⊢
        obtain ⟨j, e, h2, h3, h4⟩ := h
        exact ⟨j, e, h2, h3, hk _ h4⟩
      | _ => simp [ho] at h
  · exact h.elim
theorem deleteW_mono {ts : Array TypeId} {m k : AV} {K K' : AST → Prop} (hk : ∀ s, K s → K' s) (h : deleteW P ts m k σ K) : deleteW P ts m k σ K' := by
  obtain ⟨t, kt, et, h0, h1, h2, h⟩ := h
  refine ⟨t, kt, et, h0, h1, h2, ?_⟩
  split at h
  · exact hk _ h
  · rename_i i
    cases ho : σ.objs[i]? with
    | none => simp [ho] at h
    | some o =>
      cases o with
      | map es ck =>
        simp only [ho] at h ⊢
        obtain ⟨r, hr, h⟩ := h
        refine ⟨r, hr, ?_⟩
        cases r with
        | none => exact hk _ h
        | some j => exact hk _ h
      | _ => simp [ho] at h
  · exact h.elim
theorem clearW_mono {ts : Array TypeId} {m : AV} {K K' : AST → Prop} (hk : ∀ s, K s → K' s) (h : clearW P ts m σ K) : clearW P ts m σ K' := by
  obtain ⟨h0, h⟩ := h
  refine ⟨h0, ?_⟩
  split at h
  · exact hk _ h
  · rename_i i
    cases ho : σ.objs[i]? with
    | none => simp [ho] at h
    | some o =>
      cases o with
      | map es ck => simp only [ho] at h ⊢; exact hk _ h
      | _ => simp [ho] at h
  · exact h.elim
theorem makeSliceW_mono {t : TypeId} {n c : AV} {K K' : AV → AST → Prop} (hk : ∀ v s, K v s → K' v s) (h : makeSliceW P t n c σ K) : makeSliceW P t n c σ K' := by
  unfold makeSliceW at h ⊢
  split at h
  · obtain ⟨h0, h1, e, z, h2, h3, h4, h5, h6, h⟩ := h
    refine ⟨h0, h1, e, z, h2, h3, h4, h5, h6, ?_⟩
    exact h.imp (fun h => ⟨h.1, hk _ _ h.2⟩) fun h => h.imp (fun h => ⟨h.1, hk _ _ h.2⟩) fun h => ⟨h.1, hk _ _ h.2⟩
  · exact h.elim
end Go.Aff

namespace Go.Aff

variable {g g' : G} {w w' : World} {σ σ' : AST} {P : Program}

abbrev iterO (l b i since : Nat) (seen : Array Nat) (last : Nat) : AObj := .pin l (.mapIter (some b) since seen last) [.mp (some i)] [.map (some b)]

def rangeW (P : Program) (σ : AST) (t : TypeId) (x : AV) (K : AV → AST → Prop) : Prop := (∃ kt et, P.underlying t = some (.map kt et)) ∧ match x with
  | .mp (some i) => match σ.objs[i]? with
    | some (.map es ck) => ∀ l b, K (.ptr (some (σ.objs.length, []))) (σ.push (iterO l b i ck #[] ck))
    | _ => False
  | _ => False
def nextW (σ : AST) (x : AV) (s : Bool) (K : AV → AST → Prop) : Prop := s = false ∧ ∃ j l b i since seen last es ck, x = .ptr (some (j, [])) ∧ σ.objs[j]? = some (iterO l b i since seen last) ∧ σ.objs[i]? = some (.map es ck) ∧
  (∀ e ∈ es, e.1 < since) ∧ since ≤ last ∧ (∀ e ∈ es, ¬ e.1 ∈ seen → K (.tuple [.bool true, e.2.1, e.2.2]) (σ.set j (iterO l b i since (seen.push e.1) ck))) ∧ ((∀ e ∈ es, e.1 ∈ seen) → K (.tuple [.bool false]) σ)
def entryW (σ : AST) (x : AV) (K : AV → Prop) : Prop := ∃ j l b i since, ∃ seen : Array Nat, ∃ (es : List (Nat × AV × AV)) (e : Nat × AV × AV) (ck : Nat), x = .ptr (some (j, [])) ∧ σ.objs[j]? = some (iterO l b i since (seen.push e.1) ck) ∧ σ.objs[i]? = some (.map es ck) ∧ e ∈ es ∧ K (.tuple [e.2.1, e.2.2])

theorem range_does (hI : Inv g σ w) {t : TypeId} {x : AV} {X : Value} {K : AV → AST → Prop} (hx : relV g w x X) (h : rangeW P σ t x K) : Does P g w (Instr.range t X) K := by
  obtain ⟨⟨kt, et, hu⟩, h⟩ := h
  split at h
  · rename_i i
    obtain ⟨b, sh, hg, rfl⟩ := relV_mp hx
    split at h
    · rename_i es ck hobj
      obtain ⟨hb, hlim, hin⟩ := obj_map hI hobj hg
      obtain ⟨me, hme, hR⟩ := mapR_in.1 hin
      obtain ⟨hE, hI'⟩ := inv_push (o := iterO w.heap.size b i ck #[] ck) (B := .mapIter (some b) ck #[] ck) (sh := .leaf) hI fun g' hE => ⟨rfl, alloc_new, fun q v x h1 h2 => by
        cases q with
        | zero =>
          simp at h1 h2; subst h1 h2
          refine .inr ⟨?_, rfl⟩
          simp only [relC, Value.cells]
          exact ⟨b, sh, hE.objs _ _ hg, rfl⟩
        | succ q => simp at h1⟩
      refine ⟨_, _, _, _, _, run_range_map w t kt et b me ck hu hme, hE, hI', relV_of ?_ rfl, h _ _⟩
      simp only [relC, Value.cells]
      exact ⟨w.heap.size, .leaf, 0, by rw [hI.nobj]; simp, by simp [Shape.off], rfl⟩
    · exact h.elim
  · exact h.elim

theorem iter_in (hI : Inv g σ w) {j l b i since last ck : Nat} {seen : Array Nat} {es : List (Nat × AV × AV)} {X : Value} (hx : relV g w (.ptr (some (j, []))) X) (hj : σ.objs[j]? = some (iterO l b i since seen last)) (hi : σ.objs[i]? = some (.map es ck)) :
    X = .pointer (some ⟨l, 0, none⟩) ∧ w.heap[l]? = some (.mapIter (some b) since seen last) ∧ ∃ me : Array MapEntry, w.heap[b]? = some (.map me ck) ∧ MapR g w es me ck := by
  obtain ⟨b', sh, o, hgj, ho, rfl⟩ := relV_ptr hx
  obtain ⟨bb, sh', hg', hb, hl, hin⟩ := hI.obj j _ hj rfl
  rw [hgj] at hg'; cases hg'
  obtain ⟨rfl, hblk, hr⟩ := hin
  have ho0 : o = 0 := by cases sh <;> simp [Shape.off] at ho <;> omega
  subst ho0
  have hrm := (hr 0 _ _ rfl rfl).resolve_left (fun h => by cases h)
  obtain ⟨hrm, _⟩ := hrm
  simp only [relC, Value.cells] at hrm
  obtain ⟨b2, sh2, hgi, e⟩ := hrm
  simp at e; subst e
  obtain ⟨_, _, hin⟩ := obj_map hI hi hgi
  obtain ⟨me, hme, hR⟩ := mapR_in.1 hin
  exact ⟨rfl, hblk, me, hme, hR⟩
theorem MapR.mem {es : List (Nat × AV × AV)} {me : Array MapEntry} {ck : Nat} (r : MapR g w es me ck) {m : MapEntry} (h : m ∈ me.toList) : ∃ e ∈ es, m.born = e.1 ∧ isV g w e.2.1 m.key ∧ isV g w e.2.2 m.val := by
  obtain ⟨i, hi, rfl⟩ := List.mem_iff_getElem.1 h
  have hl : i < es.length := by rw [r.len]; simpa using hi
  exact ⟨es[i], List.getElem_mem hl, r.each i _ _ (List.getElem?_eq_getElem hl) (by simp at hi; simp [hi])⟩
theorem MapR.mem' {es : List (Nat × AV × AV)} {me : Array MapEntry} {ck : Nat} (r : MapR g w es me ck) {e : Nat × AV × AV} (h : e ∈ es) : ∃ m ∈ me.toList, m.born = e.1 ∧ isV g w e.2.1 m.key ∧ isV g w e.2.2 m.val := by
  obtain ⟨i, hi, rfl⟩ := List.mem_iff_getElem.1 h
  have hl : i < me.size := by rw [← r.len]; exact hi
  exact ⟨me[i], by simp, r.each i _ _ (List.getElem?_eq_getElem hi) (by simp [hl])⟩

theorem next_does (hI : Inv g σ w) {x : AV} {X : Value} {s : Bool} {ty : TypeId} {K : AV → AST → Prop} (hx : relV g w x X) (h : nextW σ x s K) : Does P g w (Instr.next X s ty) K := by
  obtain ⟨rfl, j, l, b, i, since, seen, last, es, ck, rfl, hj, hi, hold, hsc, h1, h2⟩ := h
  obtain ⟨rfl, hblk, me, hme, hR⟩ := iter_in hI hx hj hi
  have holdm : ∀ x ∈ me.toList, x.born < since := fun m hm => by
    obtain ⟨e, he, hb, _⟩ := hR.mem hm
    rw [hb]; exact hold e he
  rcases run_next_at (P := P) w ty l b since last seen me ck hblk hme holdm hsc with ⟨h0, hrun⟩ | ⟨m, hm, w1, hw1, hrun⟩
  · refine ⟨_, w, g, .tuple [.bool false], σ, hrun, Ev.refl _ _, hI, .inr (.inl ⟨_, _, rfl, rfl, by simp only [relVs]; exact ⟨_, [], rfl, by simp [relC, Value.cells], rfl, rfl⟩⟩), h2 fun e he => ?_⟩
    obtain ⟨m, hm, hb, _⟩ := hR.mem' he
    have hle : leftOf me seen = #[] := Array.eq_empty_of_size_eq_zero h0
    unfold leftOf at hle
    rw [Array.filter_eq_empty_iff] at hle
    have := hle m (by simpa using hm)
    rw [← hb]
    simpa using this
  · unfold leftOf at hm
    simp only [Array.toList_filter, List.mem_filter] at hm
    obtain ⟨hm, hns⟩ := hm
    obtain ⟨e, he, hb, hk, hv⟩ := hR.mem hm
    have hns' : ¬ e.1 ∈ seen := by rw [← hb]; simpa using hns
    have hI1 : Inv g σ w1 ∧ Ev g w g w1 ∧ w1.heap = w.heap := by
      rcases hw1 with rfl | rfl
      · exact ⟨hI, Ev.refl _ _, rfl⟩
      · exact ⟨inv_drew hI, ev_drew g w, rfl⟩
    obtain ⟨hI1, hE1, hheap⟩ := hI1
    obtain ⟨bb, sh', hg', hbase, hl, hin⟩ := hI1.obj j _ hj rfl
    obtain ⟨rfl, hblk1, hr⟩ := hin
    have hlt : bb < w1.heap.size := lt_of_blk hblk1
    obtain ⟨hE2, hI2⟩ := inv_setObj (o' := iterO bb b i since (seen.push e.1) ck) (B := .mapIter (some b) since (seen.push e.1) ck) hI1 hj rfl hg' ⟨rfl, setBlk_same hlt, fun q v x h3 h4 => (hr q v x h3 h4).imp id fun ⟨p, q⟩ => ⟨relC_mono (ev_obj hI1 hbase hl) p, q⟩⟩
    have hE := hE1.trans hE2
    rw [hb] at hrun
    refine ⟨_, _, _, .tuple [.bool true, e.2.1, e.2.2], _, hrun, hE, hI2, .inr (.inl ⟨_, _, rfl, rfl, ?_⟩), h1 e he hns'⟩
    have k1 := isV_mono hE hk
    have v1 := isV_mono hE hv
    simp only [relVs]
    exact ⟨_, _, rfl, by simp [relC, Value.cells], rfl, _, _, rfl, k1.1, k1.2, _, [], rfl, v1.1, v1.2, rfl⟩

theorem entry_does (hI : Inv g σ w) {x : AV} {X : Value} {K : AV → AST → Prop} (hx : relV g w x X) (h : entryW σ x fun v => K v σ) : Does P g w (Instr.entry X) K := by
  obtain ⟨j, l, b, i, since, seen, es, e, ck, rfl, hj, hi, he, hK⟩ := h
  obtain ⟨rfl, hblk, me, hme, hR⟩ := iter_in hI hx hj hi
  obtain ⟨m, hm, hb, hk, hv⟩ := hR.mem' he
  have hn : (me.toList.map (·.born)).Nodup := by
    have : me.toList.map (·.born) = es.map (·.1) := by
      apply List.ext_getElem?
      intro q
      simp only [List.getElem?_map]
      have hlen := hR.len
      by_cases hq : q < es.length
      · have hq' : q < me.size := by omega
        have := (hR.each q es[q] me[q] (List.getElem?_eq_getElem hq) (by simp [hq'])).1
        simp [hq, hq', this]
      · simp [hq, show ¬ q < me.size by omega]
    rw [this]; exact hR.nd
  have hrun := run_entry_at (P := P) w l b since seen me ck m (by rw [hb]; exact hblk) hme hm hn
  refine ⟨_, w, g, .tuple [e.2.1, e.2.2], σ, hrun, Ev.refl _ _, hI, .inr (.inl ⟨_, _, rfl, rfl, ?_⟩), hK⟩
  simp only [relVs]
  exact ⟨_, _, rfl, hk.1, hk.2, _, [], rfl, hv.1, hv.2, rfl⟩

theorem rangeW_mono {t : TypeId} {x : AV} {K K' : AV → AST → Prop} (hk : ∀ v s, K v s → K' v s) (h : rangeW P σ t x K) : rangeW P σ t x K' := by
  obtain ⟨h0, h⟩ := h
  refine ⟨h0, ?_⟩
  split at h
  · rename_i i
    cases ho : σ.objs[i]? with
    | none => simp [ho] at h
    | some o =>
      cases o with
      | map es ck => simp only [ho] at h ⊢; exact fun l b => hk _ _ (h l b)
      | _ => simp [ho] at h
  · exact h.elim
theorem nextW_mono {x : AV} {s : Bool} {K K' : AV → AST → Prop} (hk : ∀ v s, K v s → K' v s) (h : nextW σ x s K) : nextW σ x s K' := by
  obtain ⟨h0, j, l, b, i, since, seen, last, es, ck, hx, hj, hi, hold, hsc, h1, h2⟩ := h
  exact ⟨h0, j, l, b, i, since, seen, last, es, ck, hx, hj, hi, hold, hsc, fun e he hn => hk _ _ (h1 e he hn), fun h => hk _ _ (h2 h)⟩
theorem entryW_mono {x : AV} {K K' : AV → Prop} (hk : ∀ v, K v → K' v) (h : entryW σ x K) : entryW σ x K' := by
  obtain ⟨j, l, b, i, since, seen, es, e, ck, hx, hj, hi, he, hK⟩ := h
  exact ⟨j, l, b, i, since, seen, es, e, ck, hx, hj, hi, he, hk _ hK⟩
end Go.Aff

