/- How the invariant goes along: new blocks, stores into objects. -/
import Derived.Test.YtnoopjlfcdmdfaaAffC
namespace Go.Aff
set_option linter.unusedVariables false
set_option linter.unusedSimpArgs false

variable {g g' : G} {w w' : World} {σ σ' : AST} {P : Program}

def setBlk (w : World) (b : Nat) (o : Obj) : World := { w with heap := w.heap.setIfInBounds b o }

theorem setBlk_same {b : Nat} {o : Obj} (h : b < w.heap.size) : (setBlk w b o).heap[b]? = some o := by
  simp [setBlk, h]
theorem setBlk_other {b k : Nat} {o : Obj} (h : k ≠ b) : (setBlk w b o).heap[k]? = w.heap[k]? := by
  simp only [setBlk, Array.getElem?_setIfInBounds]; rw [if_neg (fun e => h e.symm)]
theorem lt_of_blk {b : Nat} {o : Obj} (h : w.heap[b]? = some o) : b < w.heap.size := (Array.getElem?_eq_some_iff.1 h).1

theorem alloc_old {b : Nat} {o : Obj} (h : b < w.heap.size) : (w.alloc o).heap[b]? = w.heap[b]? := by
  show (w.heap.push o)[b]? = _
  rw [Array.getElem?_push, if_neg (by omega)]
theorem alloc_new {o : Obj} : (w.alloc o).heap[w.heap.size]? = some o := by
  show (w.heap.push o)[w.heap.size]? = _
  simp

theorem objIn_mono (h : Ev g w g' w') {b : Nat} {sh : Shape} {o : AObj} (hb : w'.heap[b]? = w.heap[b]?) (ho : objIn g w b sh o) : objIn g' w' b sh o := by
  cases o with
  | cells v => obtain ⟨c, e, hc, hr, hs⟩ := ho; exact ⟨c, e, hb.trans hc, relC_mono h hr, hs⟩
  | map es =>
    obtain ⟨me, cl, hc, hl, hk, hu⟩ := ho
    exact ⟨me, cl, hb.trans hc, hl, fun i k v m h1 h2 => ⟨⟨relC_mono h (hk i k v m h1 h2).1.1, (hk i k v m h1 h2).1.2⟩, ⟨relC_mono h (hk i k v m h1 h2).2.1.1, (hk i k v m h1 h2).2.1.2⟩, (hk i k v m h1 h2).2.2⟩, hu⟩
  | gone => trivial
  | pin l o vs xs => exact ⟨ho.1, hb.trans ho.2.1, fun i v x h1 h2 => (ho.2.2 i v x h1 h2).imp id fun ⟨a, b⟩ => ⟨relC_mono h a, b⟩⟩

/-- A write into an object's block. -/
theorem ev_obj (hI : Inv g σ w) {b : Nat} {o : Obj} (hb : g.base ≤ b) (hl : g.lim b = none) : Ev g w g (setBlk w b o) where
  os := rfl
  tape := rfl
  output := rfl
  size := by simp [setBlk]
  base := rfl
  old k hk := setBlk_other (by omega)
  objs _ _ h := h
  lim k L h := ⟨⟨L, h, Nat.le_refl _⟩, fun c e fr hc => ⟨c, e, fr, by rw [setBlk_other (by rintro rfl; rw [hl] at h; cases h)]; exact hc, fun _ _ => rfl⟩⟩
  toks t e h := ⟨e, h, rfl, Nat.le_refl _, fun _ => rfl⟩

theorem inv_setObj (hI : Inv g σ w) {i : Nat} {o o' : AObj} {b : Nat} {sh : Shape} {B : Obj} (hi : σ.objs[i]? = some o) (hlv : o.live = true) (hg : g.objs[i]? = some (b, sh))
    (ho' : objIn g (setBlk w b B) b sh o') : Ev g w g (setBlk w b B) ∧ Inv g (σ.set i o') (setBlk w b B) := by
  obtain ⟨b1, sh1, h1, hbase, hlim, hin⟩ := hI.obj i o hi hlv
  rw [hg] at h1; cases h1
  have hE := ev_obj (o := B) hI hbase hlim
  refine ⟨hE, ?_⟩
  have hlen : i < σ.objs.length := (List.getElem?_eq_some_iff.1 hi).1
  refine { base := Nat.le_trans hI.base hE.size, nobj := by simp [AST.set, hI.nobj], obj := ?_, inj := ?_, rows := ?_, ntok := hI.ntok, tok := ?_, tinj := hI.tinj }
  · intro j q hq hql
    simp only [AST.set, List.getElem?_set, hlen, if_true] at hq
    split at hq
    · rename_i e; subst e
      cases hq
      exact ⟨b, sh, hg, hbase, hlim, ho'⟩
    · rename_i hne
      obtain ⟨b2, sh2, h2, hb2, hl2, hin2⟩ := hI.obj j q hq hql
      have hbb : b2 ≠ b := by
        rintro rfl
        exact hne (hI.inj i j o q b2 sh sh2 hi hq hlv hql hg h2)
      exact ⟨b2, sh2, h2, hb2, hl2, objIn_mono hE (setBlk_other hbb) hin2⟩
  · intro j k q q' b2 s2 s2' hq hq' hql hql' h2 h2'
    simp only [AST.set, List.getElem?_set] at hq hq'
    have fix : ∀ (j : Nat) (q : AObj) (b2 : Nat) (s2 : Shape), (if i = j then (if i < σ.objs.length then some o' else none) else σ.objs[j]?) = some q → q.live = true → g.objs[j]? = some (b2, s2) → ∃ q0, σ.objs[j]? = some q0 ∧ q0.live = true := by
      intro j q b2 s2 h hl _
      split at h
      · rename_i e; subst e; exact ⟨o, hi, hlv⟩
      · exact ⟨q, h, hl⟩
    obtain ⟨q0, hq0, hl0⟩ := fix j q b2 s2 hq hql h2
    obtain ⟨q1, hq1, hl1⟩ := fix k q' b2 s2' hq' hql' h2'
    exact hI.inj j k q0 q1 b2 s2 s2' hq0 hq1 hl0 hl1 h2 h2'
  · intro k L hk
    obtain ⟨h1, c, e, fr, hc, hL⟩ := hI.rows k L hk
    exact ⟨h1, c, e, fr, by rw [setBlk_other (by rintro rfl; rw [hlim] at hk; cases hk)]; exact hc, hL⟩
  · intro t e ht
    obtain ⟨h1, h2, h3, h4, h5⟩ := hI.tok t e ht
    refine ⟨h1, h2, h3, h4, fun bb oo ha hlt => ?_⟩
    obtain ⟨hl2, c, el, fr, hc, hsz, hfr⟩ := h5 bb oo ha hlt
    exact ⟨hl2, c, el, fr, by rw [setBlk_other (by rintro rfl; rw [hlim] at hl2; cases hl2)]; exact hc, hsz, hfr⟩

theorem lim_fresh (hI : Inv g σ w) : g.lim w.heap.size = none := by
  cases h : g.lim w.heap.size with
  | none => rfl
  | some L => obtain ⟨_, c, e, fr, hc, _⟩ := hI.rows _ L h; have := lt_of_blk hc; omega

/-- A new block, of which nothing is said yet. -/
theorem ev_alloc (hI : Inv g σ w) (o : Obj) (objs' : List (Nat × Shape)) (lim' : Nat → Option Nat) (toks' : List TokE)
    (h1 : ∀ (i : Nat) x, g.objs[i]? = some x → objs'[i]? = some x) (h2 : ∀ b L, g.lim b = some L → lim' b = some L) (h3 : ∀ (t : Nat) e, g.toks[t]? = some e → ∃ e', toks'[t]? = some e' ∧ e'.es = e.es ∧ e.len ≤ e'.len ∧ (e'.len = e.len → e' = e)) :
    Ev g w { g with objs := objs', lim := lim', toks := toks' } (w.alloc o) where
  os := rfl
  tape := rfl
  output := rfl
  size := by simp
  base := rfl
  old b hb := alloc_old (Nat.lt_of_lt_of_le hb hI.base)
  objs := h1
  lim b L h := ⟨⟨L, h2 b L h, Nat.le_refl _⟩, fun c e fr hc => ⟨c, e, fr, by rw [alloc_old (lt_of_blk hc)]; exact hc, fun _ _ => rfl⟩⟩
  toks := h3

theorem objs_lt (hI : Inv g σ w) {i : Nat} {o : AObj} {b : Nat} {sh : Shape} (hi : σ.objs[i]? = some o) (hl : o.live = true) (hg : g.objs[i]? = some (b, sh)) : b < w.heap.size := by
  obtain ⟨b1, sh1, h1, _, _, hin⟩ := hI.obj i o hi hl
  rw [hg] at h1; cases h1
  cases o with
  | cells v => obtain ⟨c, e, hc, _⟩ := hin; exact lt_of_blk hc
  | map es => obtain ⟨c, e, hc, _⟩ := hin; exact lt_of_blk hc
  | gone => simp [AObj.live] at hl
  | pin l o vs xs => exact lt_of_blk hin.2.1

theorem getElem?_append_some {α : Type} {l l' : List α} {i : Nat} {x : α} (h : l[i]? = some x) : (l ++ l')[i]? = some x := by
  rw [List.getElem?_append_left (List.getElem?_eq_some_iff.1 h).1]; exact h

theorem inv_push (hI : Inv g σ w) {o : AObj} {B : Obj} {sh : Shape} (ho : ∀ g', Ev g w g' (w.alloc B) → objIn g' (w.alloc B) w.heap.size sh o) :
    Ev g w { g with objs := g.objs ++ [(w.heap.size, sh)] } (w.alloc B) ∧ Inv { g with objs := g.objs ++ [(w.heap.size, sh)] } (σ.push o) (w.alloc B) := by
  have hE : Ev g w { g with objs := g.objs ++ [(w.heap.size, sh)] } (w.alloc B) :=
    ev_alloc hI B _ g.lim g.toks (fun i x h => getElem?_append_some h) (fun _ _ h => h) (fun t e h => ⟨e, h, rfl, Nat.le_refl _, fun _ => rfl⟩)
  refine ⟨hE, ?_⟩
  have cases_ : ∀ (j : Nat) (q : AObj), (σ.objs ++ [o])[j]? = some q → (σ.objs[j]? = some q) ∨ (j = σ.objs.length ∧ q = o) := by
    intro j q h
    rw [List.getElem?_append] at h
    split at h
    · exact .inl h
    · rename_i hj
      right
      have : j - σ.objs.length = 0 := by
        by_cases e : j - σ.objs.length = 0
        · exact e
        · rw [List.getElem?_eq_none (by simp; omega)] at h; cases h
      rw [this] at h; simp at h; exact ⟨by omega, h.symm⟩
  refine { base := Nat.le_trans hI.base hE.size, nobj := by simp [AST.push, hI.nobj], obj := ?_, inj := ?_, rows := ?_, ntok := hI.ntok, tok := ?_, tinj := hI.tinj }
  · intro j q hq hql
    rcases cases_ j q hq with h | ⟨rfl, rfl⟩
    · obtain ⟨b2, sh2, h2, hb2, hl2, hin2⟩ := hI.obj j q h hql
      exact ⟨b2, sh2, getElem?_append_some h2, hb2, hl2, objIn_mono hE (alloc_old (objs_lt hI h hql h2)) hin2⟩
    · exact ⟨w.heap.size, sh, by rw [hI.nobj]; simp, hI.base, (lim_fresh hI : g.lim w.heap.size = none), ho _ hE⟩
  · intro j k q q' b2 s2 s2' hq hq' hql hql' h2 h2'
    simp only at h2 h2'
    rcases cases_ j q hq with h | ⟨rfl, rfl⟩ <;> rcases cases_ k q' hq' with h' | ⟨rfl, rfl⟩
    · have hj : j < g.objs.length := by rw [← hI.nobj]; exact (List.getElem?_eq_some_iff.1 h).1
      have hk : k < g.objs.length := by rw [← hI.nobj]; exact (List.getElem?_eq_some_iff.1 h').1
      rw [List.getElem?_append_left hj] at h2
      rw [List.getElem?_append_left hk] at h2'
      exact hI.inj j k q q' b2 s2 s2' h h' hql hql' h2 h2'
    · have hj : j < g.objs.length := by rw [← hI.nobj]; exact (List.getElem?_eq_some_iff.1 h).1
      rw [List.getElem?_append_left hj] at h2
      rw [hI.nobj] at h2'; simp at h2'
      have := objs_lt hI h hql h2
      omega
    · have hk : k < g.objs.length := by rw [← hI.nobj]; exact (List.getElem?_eq_some_iff.1 h').1
      rw [List.getElem?_append_left hk] at h2'
      rw [hI.nobj] at h2; simp at h2
      have := objs_lt hI h' hql' h2'
      omega
    · rfl
  · intro k L hk
    obtain ⟨h1, c, e, fr, hc, hL⟩ := hI.rows k L hk
    exact ⟨h1, c, e, fr, by rw [alloc_old (lt_of_blk hc)]; exact hc, hL⟩
  · intro t e ht
    obtain ⟨h1, h2, h3, h4, h5⟩ := hI.tok t e ht
    refine ⟨h1, h2, h3, h4, fun bb oo ha hlt => ?_⟩
    obtain ⟨hl2, c, el, fr, hc, hsz, hfr⟩ := h5 bb oo ha hlt
    exact ⟨hl2, c, el, fr, by rw [alloc_old (lt_of_blk hc)]; exact hc, hsz, hfr⟩

def G.row (g : G) (b n : Nat) : G := { g with lim := fun k => if k = b then some n else g.lim k }

/-- A new row that is seen up to n cells. -/
theorem inv_row (hI : Inv g σ w) {c : Array Value} {e : TypeId} {fr : Nat × Nat} {n : Nat} (hn : n ≤ c.size) :
    Ev g w (g.row w.heap.size n) (w.alloc (.cells c e fr)) ∧ Inv (g.row w.heap.size n) σ (w.alloc (.cells c e fr)) := by
  have hfresh := lim_fresh hI
  have hlim : ∀ b L, g.lim b = some L → (g.row w.heap.size n).lim b = some L := by
    intro b L h
    simp only [G.row]
    rw [if_neg (by rintro rfl; rw [hfresh] at h; cases h)]; exact h
  have hE : Ev g w (g.row w.heap.size n) (w.alloc (.cells c e fr)) :=
    ev_alloc hI _ g.objs _ g.toks (fun i x h => h) hlim (fun t e h => ⟨e, h, rfl, Nat.le_refl _, fun _ => rfl⟩)
  refine ⟨hE, ?_⟩
  refine { base := Nat.le_trans hI.base hE.size, nobj := hI.nobj, obj := ?_, inj := hI.inj, rows := ?_, ntok := hI.ntok, tok := ?_, tinj := hI.tinj }
  · intro j q hq hql
    obtain ⟨b2, sh2, h2, hb2, hl2, hin2⟩ := hI.obj j q hq hql
    have hlt := objs_lt hI hq hql h2
    exact ⟨b2, sh2, h2, hb2, by simp only [G.row]; rw [if_neg (by omega)]; exact hl2, objIn_mono hE (alloc_old hlt) hin2⟩
  · intro k L hk
    simp only [G.row] at hk
    split at hk
    · rename_i e; subst e; cases hk
      exact ⟨hI.base, c, e, fr, alloc_new, hn⟩
    · obtain ⟨h1, c', e', fr', hc, hL⟩ := hI.rows k L hk
      exact ⟨h1, c', e', fr', by rw [alloc_old (lt_of_blk hc)]; exact hc, hL⟩
  · intro t e ht
    obtain ⟨h1, h2, h3, h4, h5⟩ := hI.tok t e ht
    refine ⟨h1, h2, h3, h4, fun bb oo ha hlt => ?_⟩
    obtain ⟨hl2, c', el, fr', hc, hsz, hfr⟩ := h5 bb oo ha hlt
    exact ⟨hlim _ _ hl2, c', el, fr', by rw [alloc_old (lt_of_blk hc)]; exact hc, hsz, hfr⟩

/-- A draw. -/
theorem ev_drew (g : G) (w : World) : Ev g w g w.drew :=
  ⟨rfl, rfl, rfl, Nat.le_refl _, rfl, fun _ _ => rfl, fun _ _ h => h, fun b L h => ⟨⟨L, h, Nat.le_refl _⟩, fun c e fr hc => ⟨c, e, fr, hc, fun _ _ => rfl⟩⟩, fun t e h => ⟨e, h, rfl, Nat.le_refl _, fun _ => rfl⟩⟩

theorem inv_drew (hI : Inv g σ w) : Inv g σ w.drew := by
  have hE := ev_drew g w
  exact { base := hI.base, nobj := hI.nobj, obj := fun j q hq hql => by
            obtain ⟨b2, sh2, h2, hb2, hl2, hin2⟩ := hI.obj j q hq hql
            exact ⟨b2, sh2, h2, hb2, hl2, objIn_mono hE rfl hin2⟩, inj := hI.inj, rows := hI.rows, ntok := hI.ntok, tok := hI.tok, tinj := hI.tinj }

/-- A new owner. -/
theorem inv_tok (hI : Inv g σ w) (e : TokE) (h1 : e.len ≤ e.cap) (h2 : e.cap ≤ maxL) (h3 : e.a = none → e.cap = 0)
    (h4 : ∀ b o, e.a = some (b, o) → e.len < e.cap → g.lim b = some (o + e.len * e.es) ∧ (∃ c el fr, w.heap[b]? = some (.cells c el fr) ∧ o + e.cap * e.es ≤ c.size ∧ (fr.1 = fr.2 ∨ c.size ≤ fr.1)) ∧
      ∀ (t : Nat) e', g.toks[t]? = some e' → ∀ o', e'.a = some (b, o') → ¬ e'.len < e'.cap) :
    Ev g w { g with toks := g.toks ++ [e] } w ∧ Inv { g with toks := g.toks ++ [e] } (σ.tok e.len e.es) w := by
  have hE : Ev g w { g with toks := g.toks ++ [e] } w :=
    ⟨rfl, rfl, rfl, Nat.le_refl _, rfl, fun _ _ => rfl, fun _ _ h => h, fun b L h => ⟨⟨L, h, Nat.le_refl _⟩, fun c e fr hc => ⟨c, e, fr, hc, fun _ _ => rfl⟩⟩,
      fun t e h => ⟨e, getElem?_append_some h, rfl, Nat.le_refl _, fun _ => rfl⟩⟩
  refine ⟨hE, ?_⟩
  have cases_ : ∀ (j : Nat) (q : TokE), (g.toks ++ [e])[j]? = some q → (g.toks[j]? = some q) ∨ (j = g.toks.length ∧ q = e) := by
    intro j q h
    rw [List.getElem?_append] at h
    split at h
    · exact .inl h
    · right
      have : j - g.toks.length = 0 := by
        by_cases e : j - g.toks.length = 0
        · exact e
        · rw [List.getElem?_eq_none (by simp; omega)] at h; cases h
      rw [this] at h; simp at h; exact ⟨by omega, h.symm⟩
  refine { base := hI.base, nobj := hI.nobj, obj := ?_, inj := hI.inj, rows := hI.rows, ntok := by simp [AST.tok, hI.ntok], tok := ?_, tinj := ?_ }
  · intro j q hq hql
    obtain ⟨b2, sh2, h2', hb2, hl2, hin2⟩ := hI.obj j q hq hql
    exact ⟨b2, sh2, h2', hb2, hl2, objIn_mono hE rfl hin2⟩
  · intro t q hq
    rcases cases_ t q hq with h | ⟨rfl, rfl⟩
    · obtain ⟨k1, k2, k3, k4, k5⟩ := hI.tok t q h
      exact ⟨getElem?_append_some k1, k2, k3, k4, k5⟩
    · refine ⟨by simp [AST.tok, ← hI.ntok], h1, h2, h3, fun b o ha hlt => ?_⟩
      obtain ⟨p1, p2, _⟩ := h4 b o ha hlt
      exact ⟨p1, p2⟩
  · intro t u q q' b o o' ht hu ha ha' hl hl'
    rcases cases_ t q ht with h | ⟨rfl, rfl⟩ <;> rcases cases_ u q' hu with h' | ⟨rfl, rfl⟩
    · exact hI.tinj t u q q' b o o' h h' ha ha' hl hl'
    · exact absurd hl ((h4 b o' ha' hl').2.2 t q h o ha)
    · exact absurd hl' ((h4 b o ha hl).2.2 u q' h' o' ha')
    · rfl

end Go.Aff
