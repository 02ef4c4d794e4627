/- What operations do, soundly (9): append, all cases. -/
import Derived.Test.YtnoopjlfcdmdfaaAffL
namespace Go.Aff
set_option linter.unusedVariables false
set_option linter.unusedSimpArgs false

variable {g g' : G} {w w' : World} {σ σ' : AST} {P : Program}

/-- An owner appends in its own room. -/
theorem inplace_does (hI : Inv g σ w) {k b o n c es : Nat} {ys : List AV} {cy : List Value} (hk : g.toks[k]? = some ⟨some (b, o), n, c, es⟩) (hy : relEs g w es ys cy) (hm : 0 < ys.length) (hfit : n + ys.length ≤ c)
    (h1 : ∀ v ∈ cy, v.oneCell' = true) :
    ∃ g' w', (storeCells (⟨b, o + n * es, none⟩ : Addr) cy).run P w = .ok () w' ∧ Ev g w g' w' ∧ Inv g' (σ.setTok k (n + ys.length) es) w' ∧
      (∀ xs cx, xs.length = n → relEs g w es xs cx → (cx = [] ∨ rd w b o cx) → relC g' w' (.slice (.own k) (xs ++ ys)) [.slice (some ⟨b, o, none⟩) (n + ys.length) c]) := by
  obtain ⟨hs1, hs2, hs3, hs4, hs5⟩ := hI.tok k _ hk
  obtain ⟨hlim, cur, el, fr, hc, hsz, hfr⟩ := hs5 b o rfl (by show n < c; omega)
  simp only at hlim hsz hs1
  have hcy := relEs_size hy
  have hroom : o + n * es + cy.length ≤ cur.size := by
    have : (n + ys.length) * es ≤ c * es := Nat.mul_le_mul_right _ hfit
    rw [Nat.add_mul] at this
    rw [hcy]; omega
  have hbase := (hI.rows b _ hlim).1
  have hst := run_storeCells_cells (P := P) b (o + n * es) cy 0 w (fun j hj => by simp [World.cell?, hc]; omega) (fun j hj => by
    have : ¬ (fr.1 ≤ o + n * es + 0 + j ∧ o + n * es + 0 + j < fr.2) := by omega
    simp only [World.frozen?, hc]
    simpa using this) h1
  simp only [Nat.add_zero] at hst
  rw [setCells_eq cy (o + n * es) cur w hc hroom] at hst
  let new : Array Value := (splice cur.toList (o + n * es) cy).toArray
  have hnewsz : new.size = cur.size := by
    show (splice cur.toList (o + n * es) cy).toArray.size = _
    rw [List.size_toArray, splice_length (by simpa using hroom)]; simp
  have hget : ∀ j, new[j]? = if o + n * es ≤ j ∧ j < o + n * es + cy.length then cy[j - (o + n * es)]? else cur[j]? := by
    intro j
    show (splice cur.toList (o + n * es) cy).toArray[j]? = _
    rw [List.getElem?_toArray, splice_get (by simpa using hroom)]; simp
  let e1 : TokE := ⟨some (b, o), n + ys.length, c, es⟩
  let g' : G := { g with lim := fun x => if x = b then some (o + (n + ys.length) * es) else g.lim x, toks := g.toks.set k e1 }
  have hklt : k < g.toks.length := (List.getElem?_eq_some_iff.1 hk).1
  have getk : g'.toks[k]? = some e1 := by show (g.toks.set k e1)[k]? = _; rw [List.getElem?_set]; simp [hklt]
  have geto : ∀ (t : Nat), t ≠ k → g'.toks[t]? = g.toks[t]? := by
    intro t ht
    show (g.toks.set k e1)[t]? = _
    rw [List.getElem?_set, if_neg (fun h => ht h.symm)]
  have hW : ∀ x, x ≠ b → (setBlk w b (.cells new el fr)).heap[x]? = w.heap[x]? := fun x hx => setBlk_other hx
  have hWb : (setBlk w b (.cells new el fr)).heap[b]? = some (.cells new el fr) := setBlk_same (lt_of_blk hc)
  have hL : o + n * es ≤ o + (n + ys.length) * es := by rw [Nat.add_mul]; omega
  have hE : Ev g w g' (setBlk w b (.cells new el fr)) := by
    refine ⟨rfl, rfl, rfl, by simp [setBlk], rfl, fun x hx => hW x (by omega), fun i x h => h, ?_, ?_⟩
    · intro x L hx
      by_cases ex : x = b
      · subst ex
        rw [hlim] at hx; cases hx
        refine ⟨⟨_, by show (if x = x then _ else _) = _; rw [if_pos rfl], hL⟩, fun c' e' fr' hc' => ?_⟩
        rw [hc] at hc'; cases hc'
        exact ⟨new, el, fr, hWb, fun j hj => by rw [hget, if_neg (by omega)]⟩
      · exact ⟨⟨L, by show (if x = b then _ else _) = _; rw [if_neg ex]; exact hx, Nat.le_refl _⟩, fun c' e' fr' hc' => ⟨c', e', fr', by rw [hW x ex]; exact hc', fun _ _ => rfl⟩⟩
    · intro t q hq
      by_cases et : t = k
      · subst et; rw [hk] at hq; cases hq
        exact ⟨e1, getk, rfl, by show n ≤ n + ys.length; omega, fun h => by have : n + ys.length = n := h; omega⟩
      · exact ⟨q, by rw [geto t et]; exact hq, rfl, Nat.le_refl _, fun _ => rfl⟩
  refine ⟨g', _, hst, hE, ?_, ?_⟩
  · refine { base := Nat.le_trans hI.base hE.size, nobj := hI.nobj, obj := ?_, inj := hI.inj, rows := ?_, ntok := by simp [AST.setTok, g', hI.ntok], tok := ?_, tinj := ?_ }
    · intro j q hq hql
      obtain ⟨b2, sh2, h2, hb2, hl2, hin2⟩ := hI.obj j q hq hql
      have hne : b2 ≠ b := by rintro rfl; rw [hlim] at hl2; cases hl2
      exact ⟨b2, sh2, h2, hb2, by show (if b2 = b then _ else _) = _; rw [if_neg hne]; exact hl2, objIn_mono hE (hW _ hne) hin2⟩
    · intro x L hx
      by_cases ex : x = b
      · subst ex
        have : L = o + (n + ys.length) * es := by
          have h : (if x = x then some (o + (n + ys.length) * es) else g.lim x) = some L := hx
          simp at h; exact h.symm
        subst this
        refine ⟨hbase, new, el, fr, hWb, ?_⟩
        rw [hnewsz]
        have : (n + ys.length) * es ≤ c * es := Nat.mul_le_mul_right _ hfit
        omega
      · have h : (if x = b then some (o + (n + ys.length) * es) else g.lim x) = some L := hx
        rw [if_neg ex] at h
        obtain ⟨p1, c', e', fr', hc', hL'⟩ := hI.rows x L h
        exact ⟨p1, c', e', fr', by rw [hW x ex]; exact hc', hL'⟩
    · intro t q hq
      by_cases et : t = k
      · subst et
        rw [getk] at hq; cases hq
        refine ⟨by simp [AST.setTok, e1, hI.ntok, hklt], hfit, hs3, (fun h => by cases h), fun b' o' hbo hlt => ?_⟩
        simp only [e1, Option.some.injEq, Prod.mk.injEq] at hbo
        obtain ⟨rfl, rfl⟩ := hbo
        refine ⟨by show (if b = b then _ else _) = _; rw [if_pos rfl], new, el, fr, hWb, by rw [hnewsz]; exact hsz, by rw [hnewsz]; exact hfr⟩
      · rw [geto t et] at hq
        obtain ⟨p1, p2, p3, p4, p5⟩ := hI.tok t q hq
        refine ⟨by simp only [AST.setTok]; rw [List.getElem?_set, if_neg (fun h => et h.symm)]; exact p1, p2, p3, p4, fun b' o' hbo hlt => ?_⟩
        obtain ⟨l2, c', e', fr', hc', hsz', hfr'⟩ := p5 b' o' hbo hlt
        have hne : b' ≠ b := by
          rintro rfl
          exact et (hI.tinj t k q _ b' o' o hq hk hbo rfl hlt (by show n < c; omega))
        exact ⟨by show (if b' = b then _ else _) = _; rw [if_neg hne]; exact l2, c', e', fr', by rw [hW b' hne]; exact hc', hsz', hfr'⟩
    · intro t u q q' x o1 o2 ht hu ha ha' hl hl'
      have conv : ∀ (t : Nat) (q : TokE), g'.toks[t]? = some q → q.a = some (x, o1) ∨ q.a = some (x, o2) → q.len < q.cap → ∃ q0, g.toks[t]? = some q0 ∧ q0.len < q0.cap ∧ q0.a = q.a := by
        intro t q hq _ hlt
        by_cases et : t = k
        · subst et; rw [getk] at hq; cases hq; exact ⟨_, hk, by show n < c; omega, rfl⟩
        · rw [geto t et] at hq; exact ⟨q, hq, hlt, rfl⟩
      obtain ⟨q0, hq0, hlt0, ha0⟩ := conv t q ht (.inl ha) hl
      obtain ⟨q1, hq1, hlt1, ha1⟩ := conv u q' hu (.inr ha') hl'
      exact hI.tinj t u q0 q1 x o1 o2 hq0 hq1 (by rw [ha0]; exact ha) (by rw [ha1]; exact ha') hlt0 hlt1
  · intro xs cx hxl hxs hrd
    have hcx := relEs_size hxs
    rw [hxl] at hcx
    have hall := relEs_append hxs hy
    simp only [relC]
    refine ⟨some (b, o), c, es, cx ++ cy, by simp [mkAddr, hxl], relEs_mono hE hall, by simp [hxl]; omega, hs3, (fun h => by cases h), (fun b' o' hbo => .inr ?_), e1, getk, by simp [e1, hxl], fun _ => ⟨rfl, rfl⟩, .inr rfl⟩
    simp only [Option.some.injEq, Prod.mk.injEq] at hbo
    obtain ⟨rfl, rfl⟩ := hbo
    refine ⟨⟨new, el, fr, hWb, fun j hj => ?_⟩, .inr ⟨o + (n + ys.length) * es, by show (if b = b then _ else _) = _; rw [if_pos rfl], by rw [List.length_append, hcx, hcy, Nat.add_mul]; omega⟩⟩
    rw [hget]
    rw [List.length_append, hcx] at hj
    by_cases hj1 : j < n * es
    · rw [if_neg (by omega), List.getElem?_append_left (by omega)]
      rcases hrd with rfl | ⟨c', e', fr', hc', hj'⟩
      · simp at hcx; omega
      · rw [hc] at hc'; cases hc'
        exact hj' j (by omega)
    · rw [if_pos (by omega), List.getElem?_append_right (by omega), hcx]
      congr 1; omega

theorem setTok_self {k n es : Nat} (h : σ.toks[k]? = some (n, es)) : σ.setTok k n es = σ := by
  unfold AST.setTok
  have : σ.toks.set k (n, es) = σ.toks := by
    apply List.ext_getElem?
    intro j
    rw [List.getElem?_set]
    split
    · rename_i e; subst e; rw [if_pos (List.getElem?_eq_some_iff.1 h).1, h]
    · rfl
  rw [this]

theorem append_does (hI : Inv g σ w) {ts : Array TypeId} {ty : TypeId} {s x : AV} {S X : Value} {K : AV → AST → Prop} (hs : relV g w s S) (hx : relV g w x X) (h : appendW P ts s x σ K) : Does P g w (Builtin.append_ ts ty #[S, X]) K := by
  obtain ⟨t, u, e, xs, tk, ys, h0, h1, hu, rfl, hel, ⟨z, hz⟩, hys, hb47, hmaxl, htk⟩ := h
  obtain ⟨i, zv, hi, hzv, hzc, _, _⟩ := hz
  have hbytes : i.bytes = P.bytesOf e := by simp [Program.bytesOf, hi]
  have hcells : i.size = P.cellsOf e := by simp [Program.cellsOf, hi]
  obtain ⟨a, c, es, css, rfl, hes, hc, hcm, hnone, hmem, htok⟩ := relV_slice hs
  obtain ⟨cy, hcy, hlen, hfirst, ⟨d, hd, hni⟩, _⟩ := elems_run hx hel hys
  have hcyone : ∀ v ∈ cy, v.oneCell' = true := by
    have gen : ∀ {ps : List AV} {cs : List Value} {q : Nat}, relEs g w q ps cs → ∀ v ∈ cs, v.oneCell' = true := by
      intro ps
      induction ps with
      | nil => intro cs q h; simp only [relEs] at h; subst h; simp
      | cons p ps ih =>
        intro cs q h
        simp only [relEs] at h
        obtain ⟨c1, c2, rfl, _, h3, h4⟩ := h
        intro v hv
        rcases List.mem_append.1 hv with hv | hv
        · exact relC_cell1 h3 v hv
        · exact ih h4 v hv
    exact gen hcy
  -- what stands in the old slice
  have hold : ∀ {W : World}, W.heap = w.heap → relEs g w (P.cellsOf e) xs css → (Builtin.firstCells (P.cellsOf e) xs.length (.slice (a.map mkAddr) xs.length c)).run P W = .ok css.toArray W := by
    intro W hW hes'
    have hsz := relEs_size hes'
    cases a with
    | none =>
      have hx0 : xs.length = 0 := by have := hnone rfl; omega
      have : css = [] := List.eq_nil_of_length_eq_zero (by rw [hsz, hx0]; simp)
      subst this
      simp [Builtin.firstCells]
    | some bo =>
      obtain ⟨b, o⟩ := bo
      refine run_firstCells_some W _ _ _ _ _ css hsz fun j v hjv => ?_
      rcases hmem b o rfl with h0 | ⟨hr, _⟩
      · subst h0; simp at hjv
      · have := rd_cell hr j v hjv
        unfold World.cell? at this ⊢
        rw [hW]; exact this
  have grow : ∀ (σ1 : AST) (k : Nat) (toks' : List TokE), relEs g w (P.cellsOf e) xs css → c < xs.length + ys.length → σ1.objs = σ.objs → k ≤ g.toks.length →
      (∀ cap, cap ≤ maxL → ∃ toks', ((k = g.toks.length ∧ toks' = g.toks ++ [⟨some (w.heap.size, 0), (xs ++ ys).length, cap, P.cellsOf e⟩] ∧ σ1.toks = σ.toks ++ [((xs ++ ys).length, P.cellsOf e)]) ∨
        (∃ e0, g.toks[k]? = some e0 ∧ e0.es = P.cellsOf e ∧ e0.len < (xs ++ ys).length ∧ toks' = g.toks.set k ⟨some (w.heap.size, 0), (xs ++ ys).length, cap, P.cellsOf e⟩ ∧ σ1.toks = σ.toks.set k ((xs ++ ys).length, P.cellsOf e)))) →
      K (.slice (.own k) (xs ++ ys)) σ1 → Does P g w (Builtin.append_ ts ty #[.slice (a.map mkAddr) xs.length c, X]) K := by
    intro σ1 k _ hes' hfit hobj hk htoks hK
    have h48 : Builtin.nextslicecap (xs.length + ys.length) c * i.bytes ≤ 281474976710656 := growslice_fits hfit (by rw [hbytes]; exact hb47)
    have hrun := run_append_out (w := w) (ty := ty) (a := a.map mkAddr) h0 h1 hu hd hni hi hzv hlen (hfirst w.drew rfl) (hold (W := w.drew) rfl hes') hfit hmaxl h48
    have hcap := grownCap_le (w := w) (need := xs.length + ys.length) (old := c) (e := e) hmaxl
    obtain ⟨toks', ht⟩ := htoks _ hcap.2
    have hall := relEs_append hes' hcy
    have hsz := relEs_size hall
    have hzsz : zv.cells.size = P.cellsOf e := by
      have := relC_size (conc_rel g w hzc)
      have h2 : i.size = z.size := by assumption
      rw [← hcells, h2, ← this]; simp
    obtain ⟨g1, hE, hI1, hr⟩ := grow_does (e := e) (xs := xs ++ ys) (cells := css.toArray ++ cy.toArray ++ Builtin.zeroCells zv.cells (grownCap w (xs.length + ys.length) c e - (xs.length + ys.length))) (css := css ++ cy) (cap := grownCap w (xs.length + ys.length) c e) (n := 0) hI hall
      (fun j hj => by rw [← Array.getElem?_toList]; simp only [Array.toList_append]; rw [List.getElem?_append_left hj])
      (by
        rw [List.length_append, List.length_append] at hsz
        simp only [Array.size_append, List.size_toArray, Builtin.zeroCells, Array.size_map, Array.size_range, hzsz]
        rw [hsz, ← Nat.add_mul]; congr 1; omega)
      (by simpa using hcap.1) hcap.2 toks' σ1 hobj k hk ht
    refine ⟨_, _, g1, .slice (.own k) (xs ++ ys), σ1, hrun, hE, hI1, relV_of ?_ rfl, hK⟩
    simpa [Value.cells] using hr
  have hinplace_run : ∀ {w1 : World}, xs.length + ys.length ≤ c → (match a.map mkAddr with | some a => (storeCells (a.add (xs.length * P.cellsOf e)) cy).run P w | none => .ok () w) = .ok () w1 →
      (Builtin.append_ ts ty #[.slice (a.map mkAddr) xs.length c, X]).run P w = .ok (.slice (a.map mkAddr) (xs.length + ys.length) c) w1 := by
    intro w1 hfit hst
    rw [run_append_in (w := w) (ty := ty) (a := a.map mkAddr) h0 h1 hu hd hni hi hlen (hfirst w rfl) hfit]
    cases a with
    | none => simp only [Option.map_none] at hst ⊢; cases hst; rfl
    | some bo => simp only [Option.map_some] at hst ⊢; rw [hst]; rfl
  cases tk with
  | none => exact htk.elim
  | lit => exact htk.elim
  | full =>
    obtain ⟨hsx, hK⟩ := htk
    have hes' := relEs_es hes hsx
    simp only [tkOk] at htok
    by_cases hy0 : ys = []
    · subst hy0
      have hcy0 : cy = [] := by simpa [relEs] using hcy
      subst hcy0
      have hrun := hinplace_run (w1 := w) (by simp; omega) (by cases a <;> rfl)
      obtain ⟨hE, hI1⟩ := inv_tok hI ⟨a, xs.length, c, P.cellsOf e⟩ (by show xs.length ≤ c; omega) hcm hnone (fun b o hbo hlt => by have : xs.length < c := hlt; omega)
      refine ⟨_, w, _, .slice (.own σ.toks.length) (xs ++ []), _, hrun, hE, hI1, relV_of ?_ rfl, by simpa using hK⟩
      simp only [relC, Value.cells, List.append_nil]
      exact ⟨a, c, P.cellsOf e, css, by simp, relEs_mono hE hes', hc, hcm, hnone, fun b o hbo => (hmem b o hbo).imp id (fun ⟨p, q⟩ => rd_mono hE p q), ⟨a, xs.length, c, P.cellsOf e⟩, by rw [hI.ntok]; simp, Nat.le_refl _, fun _ => ⟨rfl, rfl⟩, .inr rfl⟩
    · have hpos : 0 < ys.length := by cases ys with | nil => exact absurd rfl hy0 | cons y ys => simp
      refine grow (σ.tok (xs.length + ys.length) (P.cellsOf e)) σ.toks.length [] hes' (by omega) rfl (by rw [hI.ntok]; exact Nat.le_refl _) (fun cap _ => ⟨_, .inl ⟨hI.ntok, rfl, by simp [AST.tok]⟩⟩) hK
  | own k =>
    obtain ⟨hσk, hK⟩ := htk
    obtain ⟨e0, he0, hle0, heq0, hes0⟩ := htok
    obtain ⟨q1, q2, q3, q4, q5⟩ := hI.tok k e0 he0
    rw [hσk] at q1
    simp only [Option.some.injEq, Prod.mk.injEq] at q1
    obtain ⟨ql, qe⟩ := q1
    obtain ⟨ha0, hc0⟩ := heq0 ql
    have hes' : relEs g w (P.cellsOf e) xs css := by
      rcases hes0 with h | h
      · have : xs = [] := List.eq_nil_of_length_eq_zero h
        subst this; simpa [relEs] using hes
      · rw [← qe] at h; rw [← h]; exact hes
    by_cases hy0 : ys = []
    · subst hy0
      have hcy0 : cy = [] := by simpa [relEs] using hcy
      subst hcy0
      have hrun := hinplace_run (w1 := w) (by simp; omega) (by cases a <;> rfl)
      simp only [List.length_nil, Nat.add_zero, List.append_nil] at hK hrun
      rw [setTok_self hσk] at hK
      exact Does.pure hI hrun hs hK
    · have hpos : 0 < ys.length := by cases ys with | nil => exact absurd rfl hy0 | cons y ys => simp
      by_cases hfit : xs.length + ys.length ≤ c
      · cases a with
        | none => have := hnone rfl; omega
        | some bo =>
          obtain ⟨b, o⟩ := bo
          have hk' : g.toks[k]? = some ⟨some (b, o), xs.length, c, P.cellsOf e⟩ := by
            rw [he0]; congr 1
            cases e0; simp_all
          obtain ⟨g1, w1, hst, hE, hI1, hr⟩ := inplace_does (P := P) hI hk' hcy hpos hfit hcyone
          have hrun := hinplace_run (w1 := w1) hfit (by simp only [Option.map_some, mkAddr, mk_add]; exact hst)
          refine ⟨_, w1, g1, .slice (.own k) (xs ++ ys), _, hrun, hE, hI1, relV_of ?_ rfl, hK⟩
          have := hr xs css rfl hes' ((hmem b o rfl).imp id (fun h => h.1))
          simpa [Value.cells, mkAddr] using this
      · refine grow (σ.setTok k (xs.length + ys.length) (P.cellsOf e)) k [] hes' (by omega) rfl (Nat.le_of_lt (List.getElem?_eq_some_iff.1 he0).1) (fun cap _ => ⟨_, .inr ⟨e0, he0, qe.symm, by simp; omega, rfl, by simp [AST.setTok]⟩⟩) hK

end Go.Aff
