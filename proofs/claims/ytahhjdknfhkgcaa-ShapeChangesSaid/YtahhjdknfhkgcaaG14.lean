import Derived.Test.YtahhjdknfhkgcaaG13
import Derived.Test.YtahhjdknfhkgcaaG1

set_option linter.unusedSimpArgs false
set_option linter.unusedVariables false

namespace Go.Aff.L10
open Go.Proofs Go.Aff Go.Aff.L01 Classical
set_option maxRecDepth 20000
attribute [local go_sem] push_app app_app length_app cellAt_app cellAt_app0 set_app set_app0 objs_app objs_app0 List.cons_append List.nil_append List.length_cons List.length_nil List.getElem?_cons_zero List.getElem?_cons_succ List.set_cons_zero List.set_cons_succ List.length_map
attribute [-go_sem] cellAt_new
attribute [-simp] List.length_flatMap
attribute [local go_sem] Try.underlying9 Try.underlying50
attribute [local go_sem] fits3 fits9 fits31
attribute [local go_sem ↓] blockQ_exit2
attribute [local go_sem] ndPs_0 ndAt_0 ndPs_1 ndAt_1 ndPs_2 ndAt_2 ndPs_3 ndAt_3 ndPs_4 ndAt_4 sizes_nd fits_nd Try.underlying102 Try.underlying52 Try.underlying43 fits43
attribute [local go_sem] entPs_0 entAt_0 entSet_0 entPs_1 entAt_1 entSet_1 sizes_ent fits_ent zero_ent zt_ent built_ent Try.underlying94 bodPs_0 bodAt_0 bodSet_0 bodPs_1 bodAt_1 bodSet_1 bodPs_2 bodAt_2 bodSet_2 sizes_bod fits_bod zero_bod zt_bod built_bod Try.underlying97 rvPs_0 rvPs_1 rvSet_0 rvSet_1 rvAt_0 rvAt_1 zero_rv zt_rv built_rv fits95 fits98 Try.underlying100 Try.underlying95 Try.underlying98
open Go.Aff.L31
def enOf (E : List TEnt) : List En := E.map fun y => (y.x.path.length, y.x.node)
theorem en_count {E : List TEnt} {n : Int} : ((enOf E).map (·.2)).count n = E.countP (fun y => y.x.node == n) := by
  unfold enOf
  rw [List.map_map, List.count, List.countP_map]
  rfl
theorem en_at {E : List TEnt} {i : Nat} {z : TEnt} (h : E[i]? = some z) : (enOf E)[i]? = some (z.x.path.length, z.x.node) := by
  unfold enOf; rw [List.getElem?_map, h]; rfl
theorem en_app {E A : List TEnt} : enOf (E ++ A) = enOf E ++ enOf A := by simp [enOf]
theorem en_len {E : List TEnt} : (enOf E).length = E.length := by simp [enOf]
def gL (l : List Node) : List Nd := l.map gN
theorem asc_nodup {l : List Node} (h : Asc l) : ((gL l).map (·.num)).Nodup := by
  have e : (gL l).map (·.num) = l.map (·.num) := by simp [gL, gN, Function.comp_def]
  rw [e, List.nodup_iff_pairwise_ne, List.pairwise_iff_getElem]
  intro i j hi hj hij
  simp only [List.length_map] at hi hj
  have := asc_lt h (j - i - 1) (List.getElem?_eq_getElem hi) (by rw [show i + 1 + (j - i - 1) = j by omega]; exact List.getElem?_eq_getElem hj)
  simp only [List.getElem_map]
  omega
def atI (l : List Node) (n : Int) : Nat → Int
  | 0 => -1
  | k + 1 => match l[k]? with
    | some y => if y.num = n then k else atI l n k
    | none => atI l n k
theorem atI_res {l : List Node} {n : Int} : ∀ k, (atI l n k = -1 ∧ ∀ m < k, ∀ y, l[m]? = some y → y.num ≠ n) ∨ ∃ m, m < k ∧ ∃ y, atI l n k = (m : Nat) ∧ l[m]? = some y ∧ y.num = n
  | 0 => .inl ⟨rfl, fun m hm => absurd hm (by omega)⟩
  | k + 1 => by
    rw [atI]
    cases hk : l[k]? with
    | none =>
      rcases atI_res (l := l) (n := n) k with ⟨a, b⟩ | ⟨m, hm, y, a, b, c⟩
      · refine .inl ⟨a, fun m hm y hy => ?_⟩
        by_cases e : m = k
        · subst e; rw [hk] at hy; cases hy
        · exact b m (by omega) y hy
      · exact .inr ⟨m, by omega, y, a, b, c⟩
    | some z =>
      dsimp only
      by_cases hz : z.num = n
      · rw [if_pos hz]
        exact .inr ⟨k, by omega, z, rfl, hk, hz⟩
      · rw [if_neg hz]
        rcases atI_res (l := l) (n := n) k with ⟨a, b⟩ | ⟨m, hm, y, a, b, c⟩
        · refine .inl ⟨a, fun m hm y hy => ?_⟩
          by_cases e : m = k
          · subst e; rw [hk] at hy; cases hy; exact hz
          · exact b m (by omega) y hy
        · exact .inr ⟨m, by omega, y, a, b, c⟩
theorem fnd_at {l : List Node} (h : Asc l) {m : Nat} {y : Node} (hy : l[m]? = some y) : fnd (gL l) y.num = some (gN y) :=
  fnd_mem (x := gN y) (asc_nodup h) (List.mem_map.2 ⟨y, List.mem_of_getElem? hy, rfl⟩)
theorem fnd_none {l : List Node} {n : Int} (h : ∀ m < l.length, ∀ y, l[m]? = some y → y.num ≠ n) : fnd (gL l) n = none := by
  unfold fnd
  rw [List.find?_eq_none]
  intro x hx
  obtain ⟨y, hy, rfl⟩ := List.mem_map.1 hx
  obtain ⟨m, hm⟩ := List.mem_iff_getElem?.1 hy
  have := h m (List.getElem?_eq_some_iff.1 hm).1 y hm
  show ¬ decide (y.num = n) = true
  rw [decide_eq_true_iff]; exact this
theorem gL_plain {l : List Node} (hA : Asc l) (hP : ∀ y ∈ l, PlainN y) : Plain (gL l) := by
  refine ⟨asc_nodup hA, fun x hx hd => ?_⟩
  obtain ⟨y, hy, rfl⟩ := List.mem_map.1 hx
  have hp := hP y hy
  rcases hp.k with ⟨k1, k2, _⟩ | ⟨k1, _⟩
  · have := hp.l
    rw [k2] at this
    exact List.length_eq_zero_iff.1 this.symm
  · simp [gN, k1] at hd
theorem gL_sum {l : List Node} (hP : ∀ y ∈ l, PlainN y) : ((gL l).map fun x => x.ch.length).sum = (l.map fun x => x.names.length).sum := by
  unfold gL
  rw [List.map_map]
  congr 1
  refine List.map_congr_left fun y hy => ?_
  simp [gN, (hP y hy).l]
theorem sum_bd {α : Type} {f : α → Nat} {b : Nat} : ∀ {l : List α}, (∀ x ∈ l, f x ≤ b) → (l.map f).sum ≤ l.length * b
  | [], _ => by simp
  | x :: l, h => by
    have h1 := h x (List.mem_cons_self ..)
    have h2 := sum_bd (l := l) fun y hy => h y (List.mem_cons_of_mem _ hy)
    rw [List.map_cons, List.sum_cons, List.length_cons, Nat.add_mul]; omega
theorem told_bd {l : List Node} (hA : Asc l) (hP : ∀ y ∈ l, PlainN y) (hl : l.length ≤ 80) {E : List En} {i : Nat} (h : L31.Told (gL l) E i) (hf : ∀ k < i, Fit (gL l) E k) (hi : i ≤ E.length) : E.length ≤ 6401 := by
  have h1 := told_le (gL_plain hA hP) h hf hi
  have h2 := sum_bd (l := l) (f := fun x => x.names.length) (b := 80) fun x hx => (hP x hx).b
  rw [gL_sum hP] at h1
  have h3 : l.length * 80 ≤ 80 * 80 := Nat.mul_le_mul_right _ hl
  omega
theorem told_kidsE {l : List Node} {e : En} {y : Node} (hf : fnd (gL l) e.2 = some (gN y)) : kidsE (gL l) e = y.nodes.map fun c => (e.1 + 1, c) := by
  unfold kidsE kids; rw [hf]; rfl
theorem vol_end {l : List Node} (hA : Asc l) (hP : ∀ y ∈ l, PlainN y) (hr : ∃ x, l[0]? = some x ∧ x.num = 1 ∧ x.kind = 1) {E : List En} (h : L31.Told (gL l) E E.length) (hf : ∀ k < E.length, Fit (gL l) E k) :
    ((∀ x ∈ l, 0 < (E.map (·.2)).count x.num) → E.length = 1 + (l.map fun x => x.names.length).sum) ∧
    (VolOk l ↔ (∀ x ∈ l, 0 < (E.map (·.2)).count x.num) ∧ (l.map fun x => blkV x.data.length).sum ≤ 64 ∧ E.length ≤ 65) ∧ ∀ x ∈ l, x.kind = 1 → (E.map (·.2)).count x.num ≤ 1 := by
  obtain ⟨hc, hu⟩ := all_fit h hf
  have hG := gL_plain hA hP
  have hh := told_head h
  have hE : E = (0, 1) :: E.drop 1 := by
    obtain ⟨a, b⟩ := List.getElem?_eq_some_iff.1 hh
    have := List.drop_eq_getElem_cons a
    rw [List.drop_zero] at this
    rw [b] at this
    exact this
  have hcnt : ∀ n : Int, (E.map (·.2)).count n = (if n = 1 then 1 else 0) + (U (gL l) 6 1).count n := fun n => by
    rw [hu]
    conv => lhs; rw [hE]
    rw [List.map_cons, List.count_cons]
    by_cases e : n = 1
    · subst e; simp; omega
    · have : ((1 : Int) == n) = false := by simp; exact fun h => e h.symm
      simp [this, e]
  have hn : (∀ x ∈ l, 0 < (E.map (·.2)).count x.num) → E.length = 1 + (l.map fun x => x.names.length).sum := fun q => by
    rw [← gL_sum hP]
    refine told_eq hG h hf fun x hx => ?_
    obtain ⟨y, hy, rfl⟩ := List.mem_map.1 hx
    exact q y hy
  refine ⟨hn, ⟨fun ho => ?_, fun ⟨q1, q2, q3⟩ => ?_⟩, fun x hx hk => ?_⟩
  · have q : ∀ x ∈ l, 0 < (E.map (·.2)).count x.num := fun x hx => by
      rw [hcnt]
      by_cases e : x.num = 1
      · simp [e]; omega
      · have := ho.u x hx e
        simp only [gL]; omega
    refine ⟨q, ho.b, ?_⟩
    have := ho.n
    rw [hn q]; omega
  · refine ⟨hr, hc, fun x hx hx1 => ?_, q2, ?_⟩
    · have := q1 x hx
      rw [hcnt, if_neg hx1] at this
      simp only [gL] at this; omega
    · have := hn q1; omega
  · have := fit_once hf (Nat.le_refl _) (n := x.num) (by rw [show x.num = (gN x).num from rfl, isD_mem hG.1 (List.mem_map.2 ⟨x, hx, rfl⟩)]; simp [gN, hk])
    rw [List.take_length] at this
    exact this
theorem E98 : ElemT Try.prog 98 97 3 32 := ⟨rfl, by kernel_rfl, by kernel_rfl, ⟨_, of_eq_true zt_bod⟩, by decide⟩
theorem size_bods {l : List Bod} : ∀ v ∈ l.map bodV, v.size = 3 := by
  intro v hv; obtain ⟨x, _, rfl⟩ := List.mem_map.1 hv; simp only [bodV, AV.size, sizes_bod]
theorem append_bod {a : List Bod} {y : Bod} {tk tk2 : Tk} {σ : AST} {K : AV → AST → Prop} (hca : canApp σ tk a.length 3) (hl : a.length ≤ 9000) (hK : K (.slice (growT σ tk) ((a ++ [y]).map bodV)) (growS σ tk (a.length + 1) 3)) :
    appendW Try.prog ⟨[98, 98]⟩ (.slice tk (a.map bodV)) (.slice tk2 [bodV y]) σ K := by
  refine append_slice E98 rfl (by rw [List.length_map]; exact hca) (by intro v hv; simp at hv; subst hv; simp only [bodV, AV.size, sizes_bod]) size_bods (by simp; omega) (by simp [maxL]; omega) ?_
  simpa using hK
def bodOf (x : Node) : Bod := ⟨x.num, x.kind, x.data⟩
theorem append_str1 {a : List (List UInt8)} {y : List UInt8} {tk tk2 : Tk} {σ : AST} {K : AV → AST → Prop} (hca : canApp σ tk a.length 1) (hl : a.length ≤ 9000) (hK : K (.slice (growT σ tk) ((a ++ [y]).map AV.str)) (growS σ tk (a.length + 1) 1)) :
    appendW Try.prog ⟨[43, 43]⟩ (.slice tk (a.map AV.str)) (.slice tk2 [.str y]) σ K := by
  refine append_slice L21.E29 rfl (by rw [List.length_map]; exact hca) (by intro v hv; simp at hv; subst hv; rfl) (by intro v hv; obtain ⟨x, _, rfl⟩ := List.mem_map.1 hv; rfl) (by simp; omega) (by simp [maxL]; omega) ?_
  simpa using hK
set_option maxHeartbeats 2000000 in
theorem rof_c {L : List TNd} {t : Tk} {s : AST} {K : AV → AST → Prop} (hP : ∀ y ∈ L, PlainN y.x) (hA : Asc (L.map (·.x))) (hl : L.length ≤ 80)
    (hT : VolOk (L.map (·.x)) → ∀ s' j, Ext s s' → K (.ptr (some (j, []))) s') (hF : ¬ VolOk (L.map (·.x)) → ∀ s', Ext s s' → K (.ptr none) s') :
    TCalls Try.prog 79 [.slice t (L.map ndX)] s K := by
  by_cases hz : L = []
  · subst hz
    refine tcalls_walk Try.f79 _ [.tmp 2] Try.func79 rfl rfl rfl mixed (Nat.le_of_ble_eq_true rfl) rfl fun hlen => ?_
    repeat' (first | (simp -dsimp only [↓reduceIte, go_sem]) | (refine arr_intro fun _ => ?_) | (refine later_intro ⟨keeps_nil, ?_⟩) | (refine later_intro ⟨keeps_refl, ?_⟩) | (with_reducible refine keeps_go ?_ ?_; focus (first | (simp [keeps_cons, keeps_none, objs_app, objs_app0]; done) | (simp only [keeps_cons, keeps_none, objs_app0, objs_app, and_true]; first | rfl | exact ⟨rfl, rfl⟩ | exact ⟨rfl, rfl, rfl⟩))) | (with_reducible refine (And.intro (a := keeps _ _ _) ?_ ?_); focus (first | (simp [keeps_cons, keeps_none, objs_app, objs_app0]; done) | (simp only [keeps_cons, keeps_none, objs_app0, objs_app, and_true]; first | rfl | exact ⟨rfl, rfl⟩ | exact ⟨rfl, rfl, rfl⟩))) | (refine both_ways ?_ ?_) | (rw [wrap_i64 (by omega) (by omega)]) | (refine guardV_split (fun h => ?_) (fun h => ?_) <;> (try rw [h]) <;> (try simp at h) <;> (try (exfalso; omega))))
    refine hF (fun ho => ?_) _ (Ext.refl _)
    obtain ⟨x, hx, _⟩ := ho.r
    cases hx
  · have hlen0 : 0 < L.length := List.length_pos_iff.2 hz
    have hy : L[0]? = some L[0] := List.getElem?_eq_getElem hlen0
    have hz1 : ¬ ((L.length : Nat) : Int) = 0 := by omega
    generalize L[0] = y at hy
    have hy0 : (L.map ndX)[(0 : Int).toNat]? = some (ndX y) := by rw [List.getElem?_map]; exact congrArg _ hy
    refine tcalls_walk Try.f79 _ [.tmp 2] Try.func79 rfl rfl rfl mixed (Nat.le_of_ble_eq_true rfl) rfl fun hlen => ?_
    repeat' (first | (simp -dsimp only [↓reduceIte, go_sem, hz1, hz, ndX]) | (refine arr_intro fun _ => ?_) | (refine later_intro ⟨keeps_nil, ?_⟩) | (refine later_intro ⟨keeps_refl, ?_⟩) | (with_reducible refine keeps_go ?_ ?_; focus (first | (simp [keeps_cons, keeps_none, objs_app, objs_app0]; done) | (simp only [keeps_cons, keeps_none, objs_app0, objs_app, and_true]; first | rfl | exact ⟨rfl, rfl⟩ | exact ⟨rfl, rfl, rfl⟩))) | (with_reducible refine (And.intro (a := keeps _ _ _) ?_ ?_); focus (first | (simp [keeps_cons, keeps_none, objs_app, objs_app0]; done) | (simp only [keeps_cons, keeps_none, objs_app0, objs_app, and_true]; first | rfl | exact ⟨rfl, rfl⟩ | exact ⟨rfl, rfl, rfl⟩))) | (refine both_ways ?_ ?_) | (rw [wrap_i64 (by omega) (by omega)]) | (refine guardV_split (fun h => ?_) (fun h => ?_) <;> (try rw [h]) <;> (try simp at h) <;> (try (exfalso; omega))) | (refine nth_get hy ?_) | (refine nth_get (i := 0) hy ?_))
    · refine hF (fun ho => ?_) _ (Ext.refl _)
      obtain ⟨x, hx, _, hx2⟩ := ho.r
      rw [List.getElem?_map, hy] at hx; cases hx; contradiction
    · have hrt : y.x.num = 1 := by assumption
      have hkd : y.x.kind = 1 := by assumption
      have er : AV.agg (entPs Tk.full { path := ent0.path, node := 1 }) = entX ⟨⟨[], 1⟩, .full⟩ := rfl
      rw [er]
      repeat' (first | (simp -dsimp only [↓reduceIte, go_sem, hz1]) | (refine arr_intro fun _ => ?_) | (refine later_intro ⟨keeps_nil, ?_⟩) | (refine later_intro ⟨keeps_refl, ?_⟩) | (with_reducible refine keeps_go ?_ ?_; focus (first | (simp [keeps_cons, keeps_none, objs_app, objs_app0]; done) | (simp only [keeps_cons, keeps_none, objs_app0, objs_app, and_true]; first | rfl | exact ⟨rfl, rfl⟩ | exact ⟨rfl, rfl, rfl⟩))) | (with_reducible refine (And.intro (a := keeps _ _ _) ?_ ?_); focus (first | (simp [keeps_cons, keeps_none, objs_app, objs_app0]; done) | (simp only [keeps_cons, keeps_none, objs_app0, objs_app, and_true]; first | rfl | exact ⟨rfl, rfl⟩ | exact ⟨rfl, rfl, rfl⟩))) | (refine both_ways ?_ ?_) | (rw [wrap_i64 (by omega) (by omega)]) | (refine guardV_split (fun h => ?_) (fun h => ?_) <;> (try rw [h]) <;> (try simp at h) <;> (try (exfalso; omega))) | (refine build_slice E95 rfl (by decide) (by intro v hv; simp at hv; try (subst hv; simp [go_sem, entX])) ?_))
      have e0 : (rvPs Tk.full Tk.full [] []).set 0 (.slice Tk.full [entX ⟨⟨[], 1⟩, .full⟩]) = rvPs .full .full [⟨⟨[], 1⟩, .full⟩] [] := rfl
      rw [e0]
      have hx0 : Ext s (s.app [.cells (.agg (rvPs .full .full [⟨⟨[], 1⟩, .full⟩] []))]) := Ext.app _ _
      have ho0 : (s.app [.cells (.agg (rvPs .full .full [⟨⟨[], 1⟩, .full⟩] []))]).objs[s.objs.length]? = some (.cells (.agg (rvPs .full .full [⟨⟨[], 1⟩, .full⟩] []))) := objs_app0
      generalize hj0 : s.objs.length = j at ho0 ⊢
      have hj1 : s.objs.length ≤ j := by omega
      generalize s.app [.cells (.agg (rvPs .full .full [⟨⟨[], 1⟩, .full⟩] []))] = s0 at hx0 ho0 ⊢
      refine awp_rounds (fun (i : Nat) τ s' => ∃ tb, i ≤ L.length ∧ Gr s s' tb i 3 ∧ s'.objs[j]? = some (.cells (.agg (rvPs .full tb [⟨⟨[], 1⟩, .full⟩] ((L.take i).map fun y => bodOf y.x)))) ∧ τ 0 = .slice t (L.map ndX) ∧ τ 3 = .ptr (some (j, [])) ∧ τ 4 = .int .i64 i) (fun i => L.length - i) 0 ?_ ?_
      · refine ⟨.full, by omega, ?_, ho0, ?_, ?_, ?_⟩ <;> (try simp only [go_sem]) <;> (try rfl)
        exact Gr.start' hx0
      · rintro i τ s' ⟨tb, hi, hG, hoj, t0, t3, t4⟩
        by_cases hb : i < L.length
        · have hlt1 : (i : Int) < L.length := by omega
          have hyi : L[i]? = some L[i] := List.getElem?_eq_getElem hb
          have hpy := hP _ (List.getElem_mem hb)
          generalize L[i] = z at hyi hpy
          have w1 : IntKind.i64.wrap ((i : Int) + 1) = (i : Int) + 1 := wrap_i64 (by omega) (by omega)
          have cj := cellAt_known hoj
          have hBl : (((L.take i).map fun y => bodOf y.x)).length = i := by simp; omega
          have hca := hG.c
          rw [← hBl] at hca
          have ez : AV.agg (bodPs { num := z.x.num, kind := z.x.kind, data := z.x.data }) = bodV (bodOf z.x) := rfl
          have og : ∀ (a : AST) m e (t : Tk), (growS a t m e).objs = a.objs := fun a m e t => growS_objs
          have hcases : i = 0 ∨ ∃ y', 0 < i ∧ L[i - 1]? = some y' ∧ y'.x.num < z.x.num := by
            by_cases h0 : i = 0
            · exact Or.inl h0
            · refine Or.inr ⟨L[i - 1], by omega, List.getElem?_eq_getElem (by omega), hA i z.x (by rw [List.getElem?_map, hyi]; rfl) _ (by omega) (by rw [List.getElem?_map, List.getElem?_eq_getElem (by omega)]; rfl)⟩
          rcases hcases with hi0 | ⟨y', hi0, hy', hlt'⟩
          · have hz2 : ¬ (0 : Int) < i := by omega
            repeat' (first | (simp -dsimp only [↓reduceIte, go_sem, t0, t3, t4, hlt1, w1, hz2, ndX, cj, hoj, og, cellAt_growS]) | (refine arr_intro fun _ => ?_) | (refine later_intro ⟨keeps_nil, ?_⟩) | (refine later_intro ⟨keeps_refl, ?_⟩) | (with_reducible refine keeps_go ?_ ?_; focus (first | (simp [keeps_cons, keeps_none, objs_app, objs_app0]; done) | (simp only [keeps_cons, keeps_none, objs_app0, objs_app, and_true]; first | rfl | exact ⟨rfl, rfl⟩ | exact ⟨rfl, rfl, rfl⟩))) | (with_reducible refine (And.intro (a := keeps _ _ _) ?_ ?_); focus (first | (simp [keeps_cons, keeps_none, objs_app, objs_app0]; done) | (simp only [keeps_cons, keeps_none, objs_app0, objs_app, and_true]; first | rfl | exact ⟨rfl, rfl⟩ | exact ⟨rfl, rfl, rfl⟩))) | (refine both_ways ?_ ?_) | (rw [wrap_i64 (by omega) (by omega)]) | (refine guardV_split (fun h => ?_) (fun h => ?_) <;> (try rw [h]) <;> (try simp at h) <;> (try (exfalso; omega))) | (with_reducible refine awp_drawS (id := 7) [0, 1, 2, 3, 4, 5, 6, 7, 8, 9, 10, 11, 12, 13, 14, 15, 16, 17, 18, 19, 20, 21, 22, 23] (by kernel_rfl) ?_) | (refine nth_get hyi ?_) | (refine one_c hpy ?_) | (with_reducible refine awp_drawU (id := 9) (.op 0 0 (.op 1 2 (.op 2 2 (.op 3 2 (.op 4 2 (.op 5 2 (.op 6 2 (.op 7 2 (.op 8 2 (.op 9 2 (.op 10 2 (.op 11 2 (.op 12 2 (.op 13 2 (.op 14 2 (.op 15 2 (.op 16 2 (.op 17 2 (.op 18 2 (.op 19 2 (.op 20 2 (.op 21 2 (.op 22 1 (.cut (.op 23 2 (.op 24 2 (.op 25 1 .nil))))))))))))))))))))))))))) (by kernel_rfl) ?_) | (refine build_slice E98 rfl (by decide) (by intro v hv; simp at hv; try (subst hv; simp [go_sem])) ?_))
            rw [ez]
            refine append_bod hca (by omega) ?_
            rw [hBl]
            repeat' (first | (simp -dsimp only [↓reduceIte, go_sem, t0, t3, t4, w1, cj, hoj, og, cellAt_growS]) | (refine arr_intro fun _ => ?_) | (refine later_intro ⟨keeps_nil, ?_⟩) | (refine later_intro ⟨keeps_refl, ?_⟩) | (with_reducible refine keeps_go ?_ ?_; focus (first | (simp [keeps_cons, keeps_none, objs_app, objs_app0]; done) | (simp only [keeps_cons, keeps_none, objs_app0, objs_app, and_true]; first | rfl | exact ⟨rfl, rfl⟩ | exact ⟨rfl, rfl, rfl⟩))) | (with_reducible refine (And.intro (a := keeps _ _ _) ?_ ?_); focus (first | (simp [keeps_cons, keeps_none, objs_app, objs_app0]; done) | (simp only [keeps_cons, keeps_none, objs_app0, objs_app, and_true]; first | rfl | exact ⟨rfl, rfl⟩ | exact ⟨rfl, rfl, rfl⟩))) | (refine both_ways ?_ ?_) | (rw [wrap_i64 (by omega) (by omega)]) | (refine guardV_split (fun h => ?_) (fun h => ?_) <;> (try rw [h]) <;> (try simp at h) <;> (try (exfalso; omega))))
            have hg := hG.grow (m := i + 1)
            refine later_intro ⟨i + 1, by omega, growT s' tb, by omega, ⟨hg.x.set hj1, hg.t, hg.c⟩, ?_, ?_, ?_, ?_⟩ <;> (try simp only [go_sem, t0, t3, t4]) <;> (try rfl)
            rw [objs_setSV (by rw [og]; exact (List.getElem?_eq_some_iff.1 hoj).1)]
            have e1 : (L.take (i + 1)).map (fun y => bodOf y.x) = (L.take i).map (fun y => bodOf y.x) ++ [bodOf z.x] := by rw [List.take_add_one, hyi, List.map_append]; rfl
            rw [e1]
          · have hz2 : (0 : Int) < i := by omega
            have hz3 : ¬ z.x.num ≤ y'.x.num := by omega
            have w2 : IntKind.i64.wrap ((i : Int) - 1) = ((i - 1 : Nat) : Int) := by rw [wrap_i64 (by omega) (by omega)]; omega
            repeat' (first | (simp -dsimp only [↓reduceIte, go_sem, t0, t3, t4, hlt1, w1, w2, hz2, hz3, ndX, cj, hoj, og, cellAt_growS]) | (refine arr_intro fun _ => ?_) | (refine later_intro ⟨keeps_nil, ?_⟩) | (refine later_intro ⟨keeps_refl, ?_⟩) | (with_reducible refine keeps_go ?_ ?_; focus (first | (simp [keeps_cons, keeps_none, objs_app, objs_app0]; done) | (simp only [keeps_cons, keeps_none, objs_app0, objs_app, and_true]; first | rfl | exact ⟨rfl, rfl⟩ | exact ⟨rfl, rfl, rfl⟩))) | (with_reducible refine (And.intro (a := keeps _ _ _) ?_ ?_); focus (first | (simp [keeps_cons, keeps_none, objs_app, objs_app0]; done) | (simp only [keeps_cons, keeps_none, objs_app0, objs_app, and_true]; first | rfl | exact ⟨rfl, rfl⟩ | exact ⟨rfl, rfl, rfl⟩))) | (refine both_ways ?_ ?_) | (rw [wrap_i64 (by omega) (by omega)]) | (refine guardV_split (fun h => ?_) (fun h => ?_) <;> (try rw [h]) <;> (try simp at h) <;> (try (exfalso; omega))) | (with_reducible refine awp_drawS (id := 7) [0, 1, 2, 3, 4, 5, 6, 7, 8, 9, 10, 11, 12, 13, 14, 15, 16, 17, 18, 19, 20, 21, 22, 23] (by kernel_rfl) ?_) | (refine nth_get hyi ?_) | (refine one_c hpy ?_) | (refine nth_get hy' ?_) | (with_reducible refine awp_drawU (id := 9) (.op 0 0 (.op 1 2 (.op 2 2 (.op 3 2 (.op 4 2 (.op 5 2 (.op 6 2 (.op 7 2 (.op 8 2 (.op 9 2 (.op 10 2 (.op 11 2 (.op 12 2 (.op 13 2 (.op 14 2 (.op 15 2 (.op 16 2 (.op 17 2 (.op 18 2 (.op 19 2 (.op 20 2 (.op 21 2 (.op 22 1 (.cut (.op 23 2 (.op 24 2 (.op 25 1 .nil))))))))))))))))))))))))))) (by kernel_rfl) ?_) | (refine build_slice E98 rfl (by decide) (by intro v hv; simp at hv; try (subst hv; simp [go_sem])) ?_))
            rw [ez]
            refine append_bod hca (by omega) ?_
            rw [hBl]
            repeat' (first | (simp -dsimp only [↓reduceIte, go_sem, t0, t3, t4, w1, cj, hoj, og, cellAt_growS]) | (refine arr_intro fun _ => ?_) | (refine later_intro ⟨keeps_nil, ?_⟩) | (refine later_intro ⟨keeps_refl, ?_⟩) | (with_reducible refine keeps_go ?_ ?_; focus (first | (simp [keeps_cons, keeps_none, objs_app, objs_app0]; done) | (simp only [keeps_cons, keeps_none, objs_app0, objs_app, and_true]; first | rfl | exact ⟨rfl, rfl⟩ | exact ⟨rfl, rfl, rfl⟩))) | (with_reducible refine (And.intro (a := keeps _ _ _) ?_ ?_); focus (first | (simp [keeps_cons, keeps_none, objs_app, objs_app0]; done) | (simp only [keeps_cons, keeps_none, objs_app0, objs_app, and_true]; first | rfl | exact ⟨rfl, rfl⟩ | exact ⟨rfl, rfl, rfl⟩))) | (refine both_ways ?_ ?_) | (rw [wrap_i64 (by omega) (by omega)]) | (refine guardV_split (fun h => ?_) (fun h => ?_) <;> (try rw [h]) <;> (try simp at h) <;> (try (exfalso; omega))))
            have hg := hG.grow (m := i + 1)
            refine later_intro ⟨i + 1, by omega, growT s' tb, by omega, ⟨hg.x.set hj1, hg.t, hg.c⟩, ?_, ?_, ?_, ?_⟩ <;> (try simp only [go_sem, t0, t3, t4]) <;> (try rfl)
            rw [objs_setSV (by rw [og]; exact (List.getElem?_eq_some_iff.1 hoj).1)]
            have e1 : (L.take (i + 1)).map (fun y => bodOf y.x) = (L.take i).map (fun y => bodOf y.x) ++ [bodOf z.x] := by rw [List.take_add_one, hyi, List.map_append]; rfl
            rw [e1]
        · obtain rfl : i = L.length := by omega
          rw [List.take_length] at hoj
          have hlt1 : ¬ ((L.length : Nat) : Int) < L.length := by omega
          have hxs := hG.x
          clear hG hx0 ho0
          generalize hBd : (L.map fun y => bodOf y.x) = B at hoj
          have hPn : ∀ y ∈ L.map (·.x), PlainN y := fun y hy => by obtain ⟨z, hz, rfl⟩ := List.mem_map.1 hy; exact hP z hz
          have hl' : (L.map (·.x)).length ≤ 80 := by rw [List.length_map]; exact hl
          have hroot : ∃ x, (L.map (·.x))[0]? = some x ∧ x.num = 1 ∧ x.kind = 1 := ⟨y.x, by rw [List.getElem?_map, hy]; rfl, hrt, hkd⟩
          have hf1 : (fnd (gL (L.map (·.x))) 1).isSome := by
            have := fnd_at hA (m := 0) (y := y.x) (by rw [List.getElem?_map, hy]; rfl)
            rw [hrt] at this; rw [this]; rfl
          repeat' (first | (simp -dsimp only [↓reduceIte, go_sem, t0, t3, t4, hlt1]) | (refine arr_intro fun _ => ?_) | (refine later_intro ⟨keeps_nil, ?_⟩) | (refine later_intro ⟨keeps_refl, ?_⟩) | (with_reducible refine keeps_go ?_ ?_; focus (first | (simp [keeps_cons, keeps_none, objs_app, objs_app0]; done) | (simp only [keeps_cons, keeps_none, objs_app0, objs_app, and_true]; first | rfl | exact ⟨rfl, rfl⟩ | exact ⟨rfl, rfl, rfl⟩))) | (with_reducible refine (And.intro (a := keeps _ _ _) ?_ ?_); focus (first | (simp [keeps_cons, keeps_none, objs_app, objs_app0]; done) | (simp only [keeps_cons, keeps_none, objs_app0, objs_app, and_true]; first | rfl | exact ⟨rfl, rfl⟩ | exact ⟨rfl, rfl, rfl⟩))) | (refine both_ways ?_ ?_) | (rw [wrap_i64 (by omega) (by omega)]) | (refine guardV_split (fun h => ?_) (fun h => ?_) <;> (try rw [h]) <;> (try simp at h) <;> (try (exfalso; omega))))
          refine awp_rounds (fun (i : Nat) τ s' => ∃ te tb E, i ≤ E.length ∧ Ext s s' ∧ s'.objs[j]? = some (.cells (.agg (rvPs te tb E B))) ∧ L31.Told (gL (L.map (·.x))) (enOf E) i ∧ (∀ k < i, Fit (gL (L.map (·.x))) (enOf E) k) ∧ τ 0 = .slice t (L.map ndX) ∧ τ 3 = .ptr (some (j, [])) ∧ τ 5 = .int .i64 i) (fun i => 7000 - i) 0 ?_ ?_
          · refine ⟨.full, tb, [⟨⟨[], 1⟩, .full⟩], by simp, hxs, hoj, rfl, fun k hk => absurd hk (by omega), ?_, ?_, ?_⟩ <;> (try simp only [go_sem, t0, t3]) <;> (try rfl)
          · clear hxs hoj t0 t3 t4 hlt1 τ s' hi
            rintro i τ s' ⟨te, tb, E, hi, hx, hoj, hTo, hFi, t0, t3, t5⟩
            have hbd : E.length ≤ 6401 := by have := told_bd hA hPn hl' hTo hFi (by rw [en_len]; exact hi); rwa [en_len] at this
            have cj := cellAt_known hoj
            by_cases hb : i < E.length
            · have hlt1 : (i : Int) < E.length := by omega
              have hzi : E[i]? = some E[i] := List.getElem?_eq_getElem hb
              generalize E[i] = z at hzi
              have hun : ¬ Fit (gL (L.map (·.x))) (enOf E) i → ¬ VolOk (L.map (·.x)) := fun hn ho => unfit hTo hFi (by rw [en_len]; exact hb) hf1 hn ho.c
              repeat' (first | (simp -dsimp only [↓reduceIte, go_sem, t0, t3, t5, cj, hlt1]) | (refine arr_intro fun _ => ?_) | (refine later_intro ⟨keeps_nil, ?_⟩) | (refine later_intro ⟨keeps_refl, ?_⟩) | (with_reducible refine keeps_go ?_ ?_; focus (first | (simp [keeps_cons, keeps_none, objs_app, objs_app0]; done) | (simp only [keeps_cons, keeps_none, objs_app0, objs_app, and_true]; first | rfl | exact ⟨rfl, rfl⟩ | exact ⟨rfl, rfl, rfl⟩))) | (with_reducible refine (And.intro (a := keeps _ _ _) ?_ ?_); focus (first | (simp [keeps_cons, keeps_none, objs_app, objs_app0]; done) | (simp only [keeps_cons, keeps_none, objs_app0, objs_app, and_true]; first | rfl | exact ⟨rfl, rfl⟩ | exact ⟨rfl, rfl, rfl⟩))) | (refine both_ways ?_ ?_) | (rw [wrap_i64 (by omega) (by omega)]) | (refine guardV_split (fun h => ?_) (fun h => ?_) <;> (try rw [h]) <;> (try simp at h) <;> (try (exfalso; omega))))
              refine awp_rounds (fun (k : Nat) τ s2 => s2 = s' ∧ k ≤ L.length ∧ τ 0 = .slice t (L.map ndX) ∧ τ 3 = .ptr (some (j, [])) ∧ τ 5 = .int .i64 i ∧ τ 6 = .int .i64 (atI (L.map (·.x)) z.x.node k) ∧ τ 7 = .int .i64 k) (fun k => L.length - k) 0 ?_ ?_
              · refine ⟨rfl, by omega, ?_, ?_, ?_, ?_, ?_⟩ <;> (try simp only [go_sem, t0, t3, t5]) <;> (try rfl)
              · clear t0 t3 t5
                rintro k τ s2 ⟨rfl, hk, t0, t3, t5, t6, t7⟩
                by_cases hkb : k < L.length
                · have hlt2 : (k : Int) < L.length := by omega
                  have hyk : L[k]? = some L[k] := List.getElem?_eq_getElem hkb
                  generalize L[k] = y2 at hyk
                  have hyk' : (L.map (·.x))[k]? = some y2.x := by rw [List.getElem?_map, hyk]; rfl
                  have w1 : IntKind.i64.wrap ((k : Int) + 1) = (k : Int) + 1 := wrap_i64 (by omega) (by omega)
                  by_cases hq : y2.x.num = z.x.node
                  · have e2 : atI (L.map (·.x)) z.x.node (k + 1) = (k : Int) := by rw [atI, hyk']; simp [hq]
                    repeat' (first | (simp -dsimp only [↓reduceIte, go_sem, t0, t3, t5, t6, t7, cj, hlt2, w1, ndX, entX, hq]) | (refine arr_intro fun _ => ?_) | (refine later_intro ⟨keeps_nil, ?_⟩) | (refine later_intro ⟨keeps_refl, ?_⟩) | (with_reducible refine keeps_go ?_ ?_; focus (first | (simp [keeps_cons, keeps_none, objs_app, objs_app0]; done) | (simp only [keeps_cons, keeps_none, objs_app0, objs_app, and_true]; first | rfl | exact ⟨rfl, rfl⟩ | exact ⟨rfl, rfl, rfl⟩))) | (with_reducible refine (And.intro (a := keeps _ _ _) ?_ ?_); focus (first | (simp [keeps_cons, keeps_none, objs_app, objs_app0]; done) | (simp only [keeps_cons, keeps_none, objs_app0, objs_app, and_true]; first | rfl | exact ⟨rfl, rfl⟩ | exact ⟨rfl, rfl, rfl⟩))) | (refine both_ways ?_ ?_) | (rw [wrap_i64 (by omega) (by omega)]) | (refine guardV_split (fun h => ?_) (fun h => ?_) <;> (try rw [h]) <;> (try simp at h) <;> (try (exfalso; omega))) | (with_reducible refine awp_drawS (id := 17) [0, 1, 2, 3, 4, 5, 6, 7, 8, 9, 10, 11, 12, 13] (by kernel_rfl) ?_) | (refine nth_get hyk ?_) | (refine nth_get hzi ?_))
                    (refine later_intro ⟨k + 1, by omega, ?_⟩; (repeat' with_reducible apply And.intro); all_goals (first | omega | (simp only [go_sem, t0, t3, t5, t6, t7, e2]; done) | rfl | assumption | (simp only [go_sem, t0, t3, t5, t6, t7, e2]; rfl) | skip))
                  · have e2 : atI (L.map (·.x)) z.x.node (k + 1) = atI (L.map (·.x)) z.x.node k := by rw [atI, hyk']; simp [hq]
                    repeat' (first | (simp -dsimp only [↓reduceIte, go_sem, t0, t3, t5, t6, t7, cj, hlt2, w1, ndX, entX, hq]) | (refine arr_intro fun _ => ?_) | (refine later_intro ⟨keeps_nil, ?_⟩) | (refine later_intro ⟨keeps_refl, ?_⟩) | (with_reducible refine keeps_go ?_ ?_; focus (first | (simp [keeps_cons, keeps_none, objs_app, objs_app0]; done) | (simp only [keeps_cons, keeps_none, objs_app0, objs_app, and_true]; first | rfl | exact ⟨rfl, rfl⟩ | exact ⟨rfl, rfl, rfl⟩))) | (with_reducible refine (And.intro (a := keeps _ _ _) ?_ ?_); focus (first | (simp [keeps_cons, keeps_none, objs_app, objs_app0]; done) | (simp only [keeps_cons, keeps_none, objs_app0, objs_app, and_true]; first | rfl | exact ⟨rfl, rfl⟩ | exact ⟨rfl, rfl, rfl⟩))) | (refine both_ways ?_ ?_) | (rw [wrap_i64 (by omega) (by omega)]) | (refine guardV_split (fun h => ?_) (fun h => ?_) <;> (try rw [h]) <;> (try simp at h) <;> (try (exfalso; omega))) | (with_reducible refine awp_drawS (id := 17) [0, 1, 2, 3, 4, 5, 6, 7, 8, 9, 10, 11, 12, 13] (by kernel_rfl) ?_) | (refine nth_get hyk ?_) | (refine nth_get hzi ?_))
                    (refine later_intro ⟨k + 1, by omega, ?_⟩; (repeat' with_reducible apply And.intro); all_goals (first | omega | (simp only [go_sem, t0, t3, t5, t6, t7, e2]; done) | rfl | assumption | (simp only [go_sem, t0, t3, t5, t6, t7, e2]; rfl) | skip))
                · obtain rfl : k = L.length := by omega
                  have hlt2 : ¬ ((L.length : Nat) : Int) < L.length := by omega
                  have hlm : (L.map (·.x)).length = L.length := List.length_map ..
                  rcases atI_res (l := L.map (·.x)) (n := z.x.node) L.length with ⟨ha, hno⟩ | ⟨m, hm, y3, ha, hy3, hn3⟩
                  · rw [ha] at t6
                    have hneg : ((-1 : Int) < 0) = True := by decide
                    repeat' (first | (simp -dsimp only [↓reduceIte, go_sem, t0, t3, t5, t6, t7, cj, hlt2, hneg]) | (refine arr_intro fun _ => ?_) | (refine later_intro ⟨keeps_nil, ?_⟩) | (refine later_intro ⟨keeps_refl, ?_⟩) | (with_reducible refine keeps_go ?_ ?_; focus (first | (simp [keeps_cons, keeps_none, objs_app, objs_app0]; done) | (simp only [keeps_cons, keeps_none, objs_app0, objs_app, and_true]; first | rfl | exact ⟨rfl, rfl⟩ | exact ⟨rfl, rfl, rfl⟩))) | (with_reducible refine (And.intro (a := keeps _ _ _) ?_ ?_); focus (first | (simp [keeps_cons, keeps_none, objs_app, objs_app0]; done) | (simp only [keeps_cons, keeps_none, objs_app0, objs_app, and_true]; first | rfl | exact ⟨rfl, rfl⟩ | exact ⟨rfl, rfl, rfl⟩))) | (refine both_ways ?_ ?_) | (rw [wrap_i64 (by omega) (by omega)]) | (refine guardV_split (fun h => ?_) (fun h => ?_) <;> (try rw [h]) <;> (try simp at h) <;> (try (exfalso; omega))))
                    refine hF (hun fun ⟨e, he, h1, _⟩ => ?_) _ hx
                    rw [en_at hzi] at he; cases he
                    dsimp only at h1
                    rw [fnd_none (fun m hm => hno m (by omega))] at h1
                    cases h1
                  · rw [ha] at t6
                    have hneg : ¬ ((m : Int) < 0) := by omega
                    obtain ⟨y4, hy4, rfl⟩ : ∃ y4, L[m]? = some y4 ∧ y4.x = y3 := by rw [List.getElem?_map, Option.map_eq_some_iff] at hy3; exact hy3
                    have hfd : fnd (gL (L.map (·.x))) z.x.node = some (gN y4.x) := by have := fnd_at hA hy3; rwa [hn3] at this
                    have hkE := told_kidsE (e := (z.x.path.length, z.x.node)) hfd
                    have hp4 := hP y4 (List.mem_of_getElem? hy4)
                    by_cases hr1 : 0 < i ∧ z.x.node = 1
                    · have hi1 : (0 : Int) < i := by omega
                      repeat' (first | (simp -dsimp only [↓reduceIte, go_sem, t0, t3, t5, t6, t7, cj, hlt2, hneg, hi1, hr1.2, entX]) | (refine arr_intro fun _ => ?_) | (refine later_intro ⟨keeps_nil, ?_⟩) | (refine later_intro ⟨keeps_refl, ?_⟩) | (with_reducible refine keeps_go ?_ ?_; focus (first | (simp [keeps_cons, keeps_none, objs_app, objs_app0]; done) | (simp only [keeps_cons, keeps_none, objs_app0, objs_app, and_true]; first | rfl | exact ⟨rfl, rfl⟩ | exact ⟨rfl, rfl, rfl⟩))) | (with_reducible refine (And.intro (a := keeps _ _ _) ?_ ?_); focus (first | (simp [keeps_cons, keeps_none, objs_app, objs_app0]; done) | (simp only [keeps_cons, keeps_none, objs_app0, objs_app, and_true]; first | rfl | exact ⟨rfl, rfl⟩ | exact ⟨rfl, rfl, rfl⟩))) | (refine both_ways ?_ ?_) | (rw [wrap_i64 (by omega) (by omega)]) | (refine guardV_split (fun h => ?_) (fun h => ?_) <;> (try rw [h]) <;> (try simp at h) <;> (try (exfalso; omega))) | (refine nth_get hzi ?_))
                      refine hF (hun fun ⟨e, he, _, h2, _⟩ => ?_) _ hx
                      rw [en_at hzi] at he; cases he
                      exact h2 hr1.1 hr1.2
                    · have hcs : (¬ (0 : Int) < i ∧ True) ∨ ((0 : Int) < i ∧ ¬ z.x.node = 1) := by
                        by_cases h0 : 0 < i
                        · exact .inr ⟨by omega, fun e => hr1 ⟨h0, e⟩⟩
                        · exact .inl ⟨by omega, trivial⟩
                      rcases hcs with ⟨hi1, hr2⟩ | ⟨hi1, hr2⟩
                      all_goals
                        by_cases hd6 : z.x.path.length ≤ 6
                        · have hd7 : ¬ (6 : Int) < z.x.path.length := by omega
                          repeat' (first | (simp -dsimp only [↓reduceIte, go_sem, t0, t3, t5, t6, t7, cj, hlt2, hneg, hi1, hr2, hd7, entX]) | (refine arr_intro fun _ => ?_) | (refine later_intro ⟨keeps_nil, ?_⟩) | (refine later_intro ⟨keeps_refl, ?_⟩) | (with_reducible refine keeps_go ?_ ?_; focus (first | (simp [keeps_cons, keeps_none, objs_app, objs_app0]; done) | (simp only [keeps_cons, keeps_none, objs_app0, objs_app, and_true]; first | rfl | exact ⟨rfl, rfl⟩ | exact ⟨rfl, rfl, rfl⟩))) | (with_reducible refine (And.intro (a := keeps _ _ _) ?_ ?_); focus (first | (simp [keeps_cons, keeps_none, objs_app, objs_app0]; done) | (simp only [keeps_cons, keeps_none, objs_app0, objs_app, and_true]; first | rfl | exact ⟨rfl, rfl⟩ | exact ⟨rfl, rfl, rfl⟩))) | (refine both_ways ?_ ?_) | (rw [wrap_i64 (by omega) (by omega)]) | (refine guardV_split (fun h => ?_) (fun h => ?_) <;> (try rw [h]) <;> (try simp at h) <;> (try (exfalso; omega))) | (refine nth_get hzi ?_))
                          refine awp_rounds (fun (q : Nat) τ s3 => s3 = s2 ∧ q ≤ i ∧ (y4.x.kind = 1 → ∀ k < q, ∀ w, E[k]? = some w → w.x.node ≠ z.x.node) ∧ τ 0 = .slice t (L.map ndX) ∧ τ 3 = .ptr (some (j, [])) ∧ τ 5 = .int .i64 i ∧ τ 6 = .int .i64 m ∧ τ 8 = .int .i64 q) (fun q => i - q) 0 ?_ ?_
                          · refine ⟨rfl, by omega, fun _ k hk => absurd hk (by omega), ?_, ?_, ?_, ?_, ?_⟩ <;> (try simp only [go_sem, t0, t3, t5, t6]) <;> (try rfl)
                          · clear t0 t3 t5 t6 t7
                            rintro q τ s3 ⟨rfl, hq, hnn, t0, t3, t5, t6, t8⟩
                            by_cases hqb : q < i
                            · have hlt3 : (q : Int) < i := by omega
                              have hwq : E[q]? = some E[q] := List.getElem?_eq_getElem (by omega)
                              generalize E[q] = w at hwq
                              have w1 : IntKind.i64.wrap ((q : Int) + 1) = (q : Int) + 1 := wrap_i64 (by omega) (by omega)
                              by_cases hk1 : y4.x.kind = 1
                              · by_cases hwn : w.x.node = z.x.node
                                · repeat' (first | (simp -dsimp only [↓reduceIte, go_sem, t0, t3, t5, t6, t8, cj, hlt3, w1, ndX, entX, hk1, hwn]) | (refine arr_intro fun _ => ?_) | (refine later_intro ⟨keeps_nil, ?_⟩) | (refine later_intro ⟨keeps_refl, ?_⟩) | (with_reducible refine keeps_go ?_ ?_; focus (first | (simp [keeps_cons, keeps_none, objs_app, objs_app0]; done) | (simp only [keeps_cons, keeps_none, objs_app0, objs_app, and_true]; first | rfl | exact ⟨rfl, rfl⟩ | exact ⟨rfl, rfl, rfl⟩))) | (with_reducible refine (And.intro (a := keeps _ _ _) ?_ ?_); focus (first | (simp [keeps_cons, keeps_none, objs_app, objs_app0]; done) | (simp only [keeps_cons, keeps_none, objs_app0, objs_app, and_true]; first | rfl | exact ⟨rfl, rfl⟩ | exact ⟨rfl, rfl, rfl⟩))) | (refine both_ways ?_ ?_) | (rw [wrap_i64 (by omega) (by omega)]) | (refine guardV_split (fun h => ?_) (fun h => ?_) <;> (try rw [h]) <;> (try simp at h) <;> (try (exfalso; omega))) | (with_reducible refine awp_drawS (id := 24) [0, 1, 2, 3, 4, 5, 6, 7, 8, 9, 10, 11, 12, 13, 14, 15, 16, 17, 18, 19, 20, 21, 22, 23, 24] (by kernel_rfl) ?_) | (refine nth_get hy4 ?_) | (refine nth_get hwq ?_) | (refine nth_get hzi ?_))
                                  refine hF (hun fun ⟨e, he, _, _, _, h4⟩ => ?_) _ hx
                                  rw [en_at hzi] at he; cases he
                                  refine h4 ?_ q hqb _ (en_at hwq) hwn
                                  unfold L31.isD
                                  rw [show ((z.x.path.length, z.x.node) : En).2 = z.x.node from rfl, hfd]
                                  simp [gN, hk1]
                                · repeat' (first | (simp -dsimp only [↓reduceIte, go_sem, t0, t3, t5, t6, t8, cj, hlt3, w1, ndX, entX, hk1, hwn]) | (refine arr_intro fun _ => ?_) | (refine later_intro ⟨keeps_nil, ?_⟩) | (refine later_intro ⟨keeps_refl, ?_⟩) | (with_reducible refine keeps_go ?_ ?_; focus (first | (simp [keeps_cons, keeps_none, objs_app, objs_app0]; done) | (simp only [keeps_cons, keeps_none, objs_app0, objs_app, and_true]; first | rfl | exact ⟨rfl, rfl⟩ | exact ⟨rfl, rfl, rfl⟩))) | (with_reducible refine (And.intro (a := keeps _ _ _) ?_ ?_); focus (first | (simp [keeps_cons, keeps_none, objs_app, objs_app0]; done) | (simp only [keeps_cons, keeps_none, objs_app0, objs_app, and_true]; first | rfl | exact ⟨rfl, rfl⟩ | exact ⟨rfl, rfl, rfl⟩))) | (refine both_ways ?_ ?_) | (rw [wrap_i64 (by omega) (by omega)]) | (refine guardV_split (fun h => ?_) (fun h => ?_) <;> (try rw [h]) <;> (try simp at h) <;> (try (exfalso; omega))) | (with_reducible refine awp_drawS (id := 24) [0, 1, 2, 3, 4, 5, 6, 7, 8, 9, 10, 11, 12, 13, 14, 15, 16, 17, 18, 19, 20, 21, 22, 23, 24] (by kernel_rfl) ?_) | (refine nth_get hy4 ?_) | (refine nth_get hwq ?_) | (refine nth_get hzi ?_))
                                  all_goals (refine later_intro ⟨q + 1, by omega, ?_⟩; (repeat' with_reducible apply And.intro); all_goals (first | omega | (simp only [go_sem, t0, t3, t5, t6, t8]; done) | rfl | assumption | (simp only [go_sem, t0, t3, t5, t6, t8]; rfl) | skip))
                                  all_goals
                                    intro hkk k hk w' hw'
                                    by_cases e : k = q
                                    · subst e; rw [hwq] at hw'; cases hw'; exact hwn
                                    · exact hnn hkk k (by omega) w' hw'
                              · repeat' (first | (simp -dsimp only [↓reduceIte, go_sem, t0, t3, t5, t6, t8, cj, hlt3, w1, ndX, entX, hk1]) | (refine arr_intro fun _ => ?_) | (refine later_intro ⟨keeps_nil, ?_⟩) | (refine later_intro ⟨keeps_refl, ?_⟩) | (with_reducible refine keeps_go ?_ ?_; focus (first | (simp [keeps_cons, keeps_none, objs_app, objs_app0]; done) | (simp only [keeps_cons, keeps_none, objs_app0, objs_app, and_true]; first | rfl | exact ⟨rfl, rfl⟩ | exact ⟨rfl, rfl, rfl⟩))) | (with_reducible refine (And.intro (a := keeps _ _ _) ?_ ?_); focus (first | (simp [keeps_cons, keeps_none, objs_app, objs_app0]; done) | (simp only [keeps_cons, keeps_none, objs_app0, objs_app, and_true]; first | rfl | exact ⟨rfl, rfl⟩ | exact ⟨rfl, rfl, rfl⟩))) | (refine both_ways ?_ ?_) | (rw [wrap_i64 (by omega) (by omega)]) | (refine guardV_split (fun h => ?_) (fun h => ?_) <;> (try rw [h]) <;> (try simp at h) <;> (try (exfalso; omega))) | (with_reducible refine awp_drawS (id := 24) [0, 1, 2, 3, 4, 5, 6, 7, 8, 9, 10, 11, 12, 13, 14, 15, 16, 17, 18, 19, 20, 21, 22, 23, 24] (by kernel_rfl) ?_) | (refine nth_get hy4 ?_) | (refine nth_get hwq ?_) | (refine nth_get hzi ?_))
                                all_goals (refine later_intro ⟨q + 1, by omega, ?_⟩; (repeat' with_reducible apply And.intro); all_goals (first | omega | (simp only [go_sem, t0, t3, t5, t6, t8]; done) | rfl | assumption | (simp only [go_sem, t0, t3, t5, t6, t8]; rfl) | skip))
                            · obtain rfl : q = i := by omega
                              have hlt3 : ¬ (q : Int) < q := by omega
                              have hfit : Fit (gL (L.map (·.x))) (enOf E) q := by
                                refine ⟨_, en_at hzi, by dsimp only; rw [hfd]; rfl, fun h0 e => hr1 ⟨h0, e⟩, hd6, fun hD k hk w hw => ?_⟩
                                have hk1 : y4.x.kind = 1 := by
                                  unfold L31.isD at hD
                                  dsimp only at hD
                                  rw [hfd] at hD
                                  simpa [gN] using hD
                                obtain ⟨w', hw', rfl⟩ : ∃ w', E[k]? = some w' ∧ (w'.x.path.length, w'.x.node) = w := by unfold enOf at hw; rw [List.getElem?_map, Option.map_eq_some_iff] at hw; exact hw
                                exact hnn hk1 k hk w' hw'
                              have hqn := hp4.b
                              repeat' (first | (simp -dsimp only [↓reduceIte, go_sem, t0, t3, t5, t6, t8, hlt3]) | (refine arr_intro fun _ => ?_) | (refine later_intro ⟨keeps_nil, ?_⟩) | (refine later_intro ⟨keeps_refl, ?_⟩) | (with_reducible refine keeps_go ?_ ?_; focus (first | (simp [keeps_cons, keeps_none, objs_app, objs_app0]; done) | (simp only [keeps_cons, keeps_none, objs_app0, objs_app, and_true]; first | rfl | exact ⟨rfl, rfl⟩ | exact ⟨rfl, rfl, rfl⟩))) | (with_reducible refine (And.intro (a := keeps _ _ _) ?_ ?_); focus (first | (simp [keeps_cons, keeps_none, objs_app, objs_app0]; done) | (simp only [keeps_cons, keeps_none, objs_app0, objs_app, and_true]; first | rfl | exact ⟨rfl, rfl⟩ | exact ⟨rfl, rfl, rfl⟩))) | (refine both_ways ?_ ?_) | (rw [wrap_i64 (by omega) (by omega)]) | (refine guardV_split (fun h => ?_) (fun h => ?_) <;> (try rw [h]) <;> (try simp at h) <;> (try (exfalso; omega))))
                              refine awp_rounds (fun (k : Nat) τ s4 => ∃ te' A, k ≤ y4.x.names.length ∧ Ext s s4 ∧ s4.objs[j]? = some (.cells (.agg (rvPs te' tb (E ++ A) B))) ∧ enOf A = (kidsE (gL (L.map (·.x))) (z.x.path.length, z.x.node)).take k ∧ τ 0 = .slice t (L.map ndX) ∧ τ 3 = .ptr (some (j, [])) ∧ τ 5 = .int .i64 q ∧ τ 6 = .int .i64 m ∧ τ 9 = .int .i64 k) (fun k => y4.x.names.length - k) 0 ?_ ?_
                              · refine ⟨te, [], by omega, hx, by rw [List.append_nil]; exact hoj, rfl, ?_, ?_, ?_, ?_, ?_⟩ <;> (try simp only [go_sem, t0, t3, t5, t6]) <;> (try rfl)
                              · clear t0 t3 t5 t6 t8
                                rintro k τ s4 ⟨te', A, hk, hx4, hoj4, hA4, t0, t3, t5, t6, t9⟩
                                have cj4 := cellAt_known hoj4
                                by_cases hkb : k < y4.x.names.length
                                · have hlt4 : (k : Int) < y4.x.names.length := by omega
                                  have hnk : y4.x.names[k]? = some y4.x.names[k] := List.getElem?_eq_getElem hkb
                                  have hck : y4.x.nodes[k]? = some (y4.x.nodes[k]'(by rw [← hp4.l]; exact hkb)) := List.getElem?_eq_getElem _
                                  generalize y4.x.names[k] = nm at hnk
                                  generalize y4.x.nodes[k]'_ = ch at hck
                                  have hzi4 : (E ++ A)[q]? = some z := by rw [List.getElem?_append_left hb]; exact hzi
                                  have hAl : A.length = k := by
                                    have := congrArg List.length hA4
                                    rw [en_len, hkE] at this
                                    rw [this, List.length_take, List.length_map, ← hp4.l]; omega
                                  have w1 : IntKind.i64.wrap ((k : Int) + 1) = (k : Int) + 1 := wrap_i64 (by omega) (by omega)
                                  repeat' (first | (simp -dsimp only [↓reduceIte, go_sem, t0, t3, t5, t6, t9, cj4, hlt4, w1, ndX, entX, cellAt_growS]) | (refine arr_intro fun _ => ?_) | (refine later_intro ⟨keeps_nil, ?_⟩) | (refine later_intro ⟨keeps_refl, ?_⟩) | (with_reducible refine keeps_go ?_ ?_; focus (first | (simp [keeps_cons, keeps_none, objs_app, objs_app0]; done) | (simp only [keeps_cons, keeps_none, objs_app0, objs_app, and_true]; first | rfl | exact ⟨rfl, rfl⟩ | exact ⟨rfl, rfl, rfl⟩))) | (with_reducible refine (And.intro (a := keeps _ _ _) ?_ ?_); focus (first | (simp [keeps_cons, keeps_none, objs_app, objs_app0]; done) | (simp only [keeps_cons, keeps_none, objs_app0, objs_app, and_true]; first | rfl | exact ⟨rfl, rfl⟩ | exact ⟨rfl, rfl, rfl⟩))) | (refine both_ways ?_ ?_) | (rw [wrap_i64 (by omega) (by omega)]) | (refine guardV_split (fun h => ?_) (fun h => ?_) <;> (try rw [h]) <;> (try simp at h) <;> (try (exfalso; omega))) | (with_reducible refine awp_drawU (id := 29) (.op 0 0 (.op 1 2 (.op 2 2 (.op 3 2 (.op 4 2 (.op 5 2 (.op 6 2 (.op 7 2 (.op 8 2 (.op 9 2 (.op 11 0 (.op 12 0 (.op 13 0 (.op 14 0 (.op 15 0 (.op 16 0 (.op 17 0 (.op 18 0 (.op 19 0 (.op 21 0 (.op 22 0 (.op 23 0 (.op 24 0 (.op 25 0 (.op 26 0 (.op 27 0 (.op 28 0 (.op 10 1 (.op 20 1 (.cut (.op 29 1 .nil))))))))))))))))))))))))))))))) (by kernel_rfl) ?_) | (refine nth_get hy4 ?_) | (refine nth_get hzi4 ?_) | (refine nth_get hnk ?_) | (refine nth_get hck ?_) | (refine build_slice L21.E29 rfl (by decide) (by intro v hv; simp at hv; try (subst hv; simp [go_sem])) ?_) | (refine append_names (by omega) ?_))
                                  all_goals
                                    refine append_str1 canGrow (by omega) ?_
                                    have hog : ∀ (a : AST) m e (t : Tk), (growS a t m e).objs = a.objs := fun a m e t => growS_objs
                                    have hgt : ∃ k, growT s4 .full = Tk.own k ∧ s.toks.length ≤ k := ⟨s4.toks.length, rfl, by obtain ⟨O, T, rfl⟩ := hx4; simp⟩
                                    have hx5 := (hx4.grow (tk := .full) (.inl rfl) (n := z.x.path.length) (es := 1)).grow (.inr hgt) (n := z.x.path.length + 1) (es := 1)
                                    have ho5 : (growS (growS s4 .full z.x.path.length 1) (growT s4 .full) (z.x.path.length + 1) 1).objs[j]? = some (.cells (.agg (rvPs te' tb (E ++ A) B))) := by rw [hog, hog]; exact hoj4
                                    repeat' (first | (simp -dsimp only [↓reduceIte, go_sem, t0, t3, t5, t6, t9, w1]) | (refine arr_intro fun _ => ?_) | (refine later_intro ⟨keeps_nil, ?_⟩) | (refine later_intro ⟨keeps_refl, ?_⟩) | (with_reducible refine keeps_go ?_ ?_; focus (first | (simp [keeps_cons, keeps_none, objs_app, objs_app0]; done) | (simp only [keeps_cons, keeps_none, objs_app0, objs_app, and_true]; first | rfl | exact ⟨rfl, rfl⟩ | exact ⟨rfl, rfl, rfl⟩))) | (with_reducible refine (And.intro (a := keeps _ _ _) ?_ ?_); focus (first | (simp [keeps_cons, keeps_none, objs_app, objs_app0]; done) | (simp only [keeps_cons, keeps_none, objs_app0, objs_app, and_true]; first | rfl | exact ⟨rfl, rfl⟩ | exact ⟨rfl, rfl, rfl⟩))) | (refine both_ways ?_ ?_) | (rw [wrap_i64 (by omega) (by omega)]) | (refine guardV_split (fun h => ?_) (fun h => ?_) <;> (try rw [h]) <;> (try simp at h) <;> (try (exfalso; omega))) | (refine putR_c hx5 hj1 ho5 (by rw [List.length_append]; omega) (by simp; omega) (fun s6 te6 t6' hx6 ho6 => ?_)))
                                    refine later_intro ⟨k + 1, by omega, te6, A ++ [⟨⟨z.x.path ++ [nm], ch⟩, t6'⟩], by omega, hx6, by rw [← List.append_assoc]; exact ho6, ?_, ?_, ?_, ?_, ?_, ?_⟩
                                    · rw [en_app, hA4, List.take_add_one, hkE, List.getElem?_map, hck]
                                      simp [enOf]
                                    all_goals (first | (simp only [go_sem, t0, t3, t5, t6, t9, w1]; done) | (simp only [go_sem, t0, t3, t5, t6, t9, w1]; rfl))
                                · obtain rfl : k = y4.x.names.length := by omega
                                  have hlt4 : ¬ ((y4.x.names.length : Nat) : Int) < y4.x.names.length := by omega
                                  have w1 : IntKind.i64.wrap ((q : Int) + 1) = (q : Int) + 1 := wrap_i64 (by omega) (by omega)
                                  have hA5 : enOf (E ++ A) = enOf E ++ kidsE (gL (L.map (·.x))) (z.x.path.length, z.x.node) := by
                                    rw [en_app, hA4, List.take_of_length_le]
                                    rw [hkE, List.length_map, ← hp4.l]
                                    exact Nat.le_refl _
                                  repeat' (first | (simp -dsimp only [↓reduceIte, go_sem, t0, t3, t5, t6, t9, hlt4, w1, ndX]) | (refine arr_intro fun _ => ?_) | (refine later_intro ⟨keeps_nil, ?_⟩) | (refine later_intro ⟨keeps_refl, ?_⟩) | (with_reducible refine keeps_go ?_ ?_; focus (first | (simp [keeps_cons, keeps_none, objs_app, objs_app0]; done) | (simp only [keeps_cons, keeps_none, objs_app0, objs_app, and_true]; first | rfl | exact ⟨rfl, rfl⟩ | exact ⟨rfl, rfl, rfl⟩))) | (with_reducible refine (And.intro (a := keeps _ _ _) ?_ ?_); focus (first | (simp [keeps_cons, keeps_none, objs_app, objs_app0]; done) | (simp only [keeps_cons, keeps_none, objs_app0, objs_app, and_true]; first | rfl | exact ⟨rfl, rfl⟩ | exact ⟨rfl, rfl, rfl⟩))) | (refine both_ways ?_ ?_) | (rw [wrap_i64 (by omega) (by omega)]) | (refine guardV_split (fun h => ?_) (fun h => ?_) <;> (try rw [h]) <;> (try simp at h) <;> (try (exfalso; omega))) | (refine nth_get hy4 ?_))
                                  refine later_intro ⟨q + 1, by omega, te', tb, E ++ A, by rw [List.length_append]; omega, hx4, hoj4, by rw [hA5]; exact told_put hTo (en_at hzi), fun k hk => ?_, ?_, ?_, ?_⟩
                                  · rw [en_app]
                                    by_cases e : k = q
                                    · subst e; exact fit_app hfit
                                    · exact fit_app (hFi k (by omega))
                                  all_goals (first | (simp only [go_sem, t0, t3, t5]; done) | (simp only [go_sem, t0, t3, t5]; rfl))
                        · have hd7 : (6 : Int) < z.x.path.length := by omega
                          repeat' (first | (simp -dsimp only [↓reduceIte, go_sem, t0, t3, t5, t6, t7, cj, hlt2, hneg, hi1, hr2, hd7, entX]) | (refine arr_intro fun _ => ?_) | (refine later_intro ⟨keeps_nil, ?_⟩) | (refine later_intro ⟨keeps_refl, ?_⟩) | (with_reducible refine keeps_go ?_ ?_; focus (first | (simp [keeps_cons, keeps_none, objs_app, objs_app0]; done) | (simp only [keeps_cons, keeps_none, objs_app0, objs_app, and_true]; first | rfl | exact ⟨rfl, rfl⟩ | exact ⟨rfl, rfl, rfl⟩))) | (with_reducible refine (And.intro (a := keeps _ _ _) ?_ ?_); focus (first | (simp [keeps_cons, keeps_none, objs_app, objs_app0]; done) | (simp only [keeps_cons, keeps_none, objs_app0, objs_app, and_true]; first | rfl | exact ⟨rfl, rfl⟩ | exact ⟨rfl, rfl, rfl⟩))) | (refine both_ways ?_ ?_) | (rw [wrap_i64 (by omega) (by omega)]) | (refine guardV_split (fun h => ?_) (fun h => ?_) <;> (try rw [h]) <;> (try simp at h) <;> (try (exfalso; omega))) | (refine nth_get hzi ?_))
                          refine hF (hun fun ⟨e, he, _, _, h3, _⟩ => ?_) _ hx
                          rw [en_at hzi] at he; cases he
                          exact hd6 h3
            · obtain rfl : i = E.length := by omega
              have hlt1 : ¬ ((E.length : Nat) : Int) < E.length := by omega
              have hTo' : L31.Told (gL (L.map (·.x))) (enOf E) (enOf E).length := by rw [en_len]; exact hTo
              have hFi' : ∀ k < (enOf E).length, Fit (gL (L.map (·.x))) (enOf E) k := fun k hk => hFi k (by rwa [en_len] at hk)
              obtain ⟨-, he2, he3⟩ := vol_end hA hPn hroot hTo' hFi'
              rw [en_len] at he2
              have hBl : B.length = L.length := by rw [← hBd, List.length_map]
              repeat' (first | (simp -dsimp only [↓reduceIte, go_sem, t0, t3, t5, cj, hlt1]) | (refine arr_intro fun _ => ?_) | (refine later_intro ⟨keeps_nil, ?_⟩) | (refine later_intro ⟨keeps_refl, ?_⟩) | (with_reducible refine keeps_go ?_ ?_; focus (first | (simp [keeps_cons, keeps_none, objs_app, objs_app0]; done) | (simp only [keeps_cons, keeps_none, objs_app0, objs_app, and_true]; first | rfl | exact ⟨rfl, rfl⟩ | exact ⟨rfl, rfl, rfl⟩))) | (with_reducible refine (And.intro (a := keeps _ _ _) ?_ ?_); focus (first | (simp [keeps_cons, keeps_none, objs_app, objs_app0]; done) | (simp only [keeps_cons, keeps_none, objs_app0, objs_app, and_true]; first | rfl | exact ⟨rfl, rfl⟩ | exact ⟨rfl, rfl, rfl⟩))) | (refine both_ways ?_ ?_) | (rw [wrap_i64 (by omega) (by omega)]) | (refine guardV_split (fun h => ?_) (fun h => ?_) <;> (try rw [h]) <;> (try simp at h) <;> (try (exfalso; omega))))
              refine awp_rounds (fun (k : Nat) τ s2 => s2 = s' ∧ k ≤ L.length ∧ (∀ m < k, ∀ w, L[m]? = some w → 0 < ((enOf E).map (·.2)).count w.x.num) ∧ τ 3 = .ptr (some (j, [])) ∧ τ 10 = .int .i64 k) (fun k => L.length - k) 0 ?_ ?_
              · refine ⟨rfl, by omega, fun m hm => absurd hm (by omega), ?_, ?_⟩ <;> (try simp only [go_sem, t0, t3, t5]) <;> (try rfl)
              · clear t0 t3 t5
                rintro k τ s2 ⟨rfl, hk, hcn, t3, t10⟩
                by_cases hkb : k < L.length
                · have hlt2 : (k : Int) < B.length := by omega
                  have hyk : L[k]? = some L[k] := List.getElem?_eq_getElem hkb
                  have hpk := hP _ (List.getElem_mem hkb)
                  generalize L[k] = y2 at hyk hpk
                  have hbk : B[k]? = some (bodOf y2.x) := by rw [← hBd, List.getElem?_map, hyk]; rfl
                  have w1 : IntKind.i64.wrap ((k : Int) + 1) = (k : Int) + 1 := wrap_i64 (by omega) (by omega)
                  have hmem : y2.x ∈ L.map (·.x) := List.mem_map.2 ⟨y2, List.mem_of_getElem? hyk, rfl⟩
                  have h3 := he3 y2.x hmem
                  rw [en_count] at h3
                  have hcE : E.countP (fun y => y.x.node == y2.x.num) ≤ 6401 := Nat.le_trans List.countP_le_length hbd
                  generalize hcp : E.countP (fun y => y.x.node == y2.x.num) = c at h3 hcE
                  have hlk : ∀ {s : AST} {K : AV → AST → Prop}, (∀ p, cellAt s j p = (AV.agg (rvPs te tb E B)).at p) → K (.int .i64 (c : Nat)) s → TCalls Try.prog 92 [.ptr (some (j, [])), .int .i64 (bodOf y2.x).num] s K := fun h hK => by
                    refine links_c h (by omega) ?_
                    rw [show (bodOf y2.x).num = y2.x.num from rfl, hcp]; exact hK
                  by_cases hz0 : c = 0
                  · subst hz0
                    repeat' (first | (simp -dsimp only [↓reduceIte, go_sem, t3, t10, cj, hlt2, w1]) | (refine arr_intro fun _ => ?_) | (refine later_intro ⟨keeps_nil, ?_⟩) | (refine later_intro ⟨keeps_refl, ?_⟩) | (with_reducible refine keeps_go ?_ ?_; focus (first | (simp [keeps_cons, keeps_none, objs_app, objs_app0]; done) | (simp only [keeps_cons, keeps_none, objs_app0, objs_app, and_true]; first | rfl | exact ⟨rfl, rfl⟩ | exact ⟨rfl, rfl, rfl⟩))) | (with_reducible refine (And.intro (a := keeps _ _ _) ?_ ?_); focus (first | (simp [keeps_cons, keeps_none, objs_app, objs_app0]; done) | (simp only [keeps_cons, keeps_none, objs_app0, objs_app, and_true]; first | rfl | exact ⟨rfl, rfl⟩ | exact ⟨rfl, rfl, rfl⟩))) | (refine both_ways ?_ ?_) | (rw [wrap_i64 (by omega) (by omega)]) | (refine guardV_split (fun h => ?_) (fun h => ?_) <;> (try rw [h]) <;> (try simp at h) <;> (try (exfalso; omega))) | (refine nth_get hbk ?_) | (refine hlk cj ?_))
                    refine hF (fun ho => ?_) _ hx
                    have := (he2.1 ho).1 _ hmem
                    rw [en_count, hcp] at this
                    omega
                  · have hz1 : ¬ ((c : Nat) : Int) = 0 := by omega
                    have hcn' : ∀ m < k + 1, ∀ w, L[m]? = some w → 0 < ((enOf E).map (·.2)).count w.x.num := fun m hm w hw => by
                      by_cases e : m = k
                      · subst e
                        rw [hyk] at hw; cases hw
                        rw [en_count, hcp]; omega
                      · exact hcn m (by omega) w hw
                    by_cases hc1 : 1 < c
                    · have hc2 : (1 : Int) < (c : Nat) := by omega
                      have hk1 : ¬ (bodOf y2.x).kind = 1 := fun e => by have := h3 e; omega
                      repeat' (first | (simp -dsimp only [↓reduceIte, go_sem, t3, t10, cj, hlt2, w1, hz1, hc2, hk1]) | (refine arr_intro fun _ => ?_) | (refine later_intro ⟨keeps_nil, ?_⟩) | (refine later_intro ⟨keeps_refl, ?_⟩) | (with_reducible refine keeps_go ?_ ?_; focus (first | (simp [keeps_cons, keeps_none, objs_app, objs_app0]; done) | (simp only [keeps_cons, keeps_none, objs_app0, objs_app, and_true]; first | rfl | exact ⟨rfl, rfl⟩ | exact ⟨rfl, rfl, rfl⟩))) | (with_reducible refine (And.intro (a := keeps _ _ _) ?_ ?_); focus (first | (simp [keeps_cons, keeps_none, objs_app, objs_app0]; done) | (simp only [keeps_cons, keeps_none, objs_app0, objs_app, and_true]; first | rfl | exact ⟨rfl, rfl⟩ | exact ⟨rfl, rfl, rfl⟩))) | (refine both_ways ?_ ?_) | (rw [wrap_i64 (by omega) (by omega)]) | (refine guardV_split (fun h => ?_) (fun h => ?_) <;> (try rw [h]) <;> (try simp at h) <;> (try (exfalso; omega))) | (refine nth_get hbk ?_) | (refine hlk cj ?_))
                      all_goals (refine later_intro ⟨k + 1, by omega, ?_⟩; (repeat' with_reducible apply And.intro); all_goals (first | omega | (simp only [go_sem, t3, t10]; done) | rfl | assumption | (simp only [go_sem, t3, t10]; rfl) | skip))
                      all_goals exact hcn'
                    · have hc2 : ¬ (1 : Int) < (c : Nat) := by omega
                      repeat' (first | (simp -dsimp only [↓reduceIte, go_sem, t3, t10, cj, hlt2, w1, hz1, hc2]) | (refine arr_intro fun _ => ?_) | (refine later_intro ⟨keeps_nil, ?_⟩) | (refine later_intro ⟨keeps_refl, ?_⟩) | (with_reducible refine keeps_go ?_ ?_; focus (first | (simp [keeps_cons, keeps_none, objs_app, objs_app0]; done) | (simp only [keeps_cons, keeps_none, objs_app0, objs_app, and_true]; first | rfl | exact ⟨rfl, rfl⟩ | exact ⟨rfl, rfl, rfl⟩))) | (with_reducible refine (And.intro (a := keeps _ _ _) ?_ ?_); focus (first | (simp [keeps_cons, keeps_none, objs_app, objs_app0]; done) | (simp only [keeps_cons, keeps_none, objs_app0, objs_app, and_true]; first | rfl | exact ⟨rfl, rfl⟩ | exact ⟨rfl, rfl, rfl⟩))) | (refine both_ways ?_ ?_) | (rw [wrap_i64 (by omega) (by omega)]) | (refine guardV_split (fun h => ?_) (fun h => ?_) <;> (try rw [h]) <;> (try simp at h) <;> (try (exfalso; omega))) | (refine nth_get hbk ?_) | (refine hlk cj ?_))
                      all_goals (refine later_intro ⟨k + 1, by omega, ?_⟩; (repeat' with_reducible apply And.intro); all_goals (first | omega | (simp only [go_sem, t3, t10]; done) | rfl | assumption | (simp only [go_sem, t3, t10]; rfl) | skip))
                      all_goals exact hcn'
                · obtain rfl : k = L.length := by omega
                  have hlt2 : ¬ ((L.length : Nat) : Int) < B.length := by omega
                  have hBd' : ∀ y ∈ B, y.data.length ≤ 1000 ∧ y.num ≠ 0 := fun y hy => by
                    rw [← hBd] at hy
                    obtain ⟨w, hw, rfl⟩ := List.mem_map.1 hy
                    have := hP w hw
                    refine ⟨?_, by have := this.n; simp only [bodOf]; omega⟩
                    rcases this.k with ⟨_, _, q⟩ | ⟨_, q⟩
                    · simp only [bodOf]; omega
                    · simp only [bodOf, q]; simp
                  have hcn2 : ∀ x ∈ L.map (·.x), 0 < ((enOf E).map (·.2)).count x.num := fun x hx => by
                    obtain ⟨w, hw, rfl⟩ := List.mem_map.1 hx
                    obtain ⟨m, hm⟩ := List.mem_iff_getElem?.1 hw
                    exact hcn m (List.getElem?_eq_some_iff.1 hm).1 w hm
                  have hsb : sumB B = ((L.map (·.x)).map fun x => blkV x.data.length).sum := by
                    rw [← hBd]; simp [sumB, bodOf, Function.comp_def]
                  by_cases hs : sumB B ≤ 64
                  · have hs1 : ¬ (64 : Int) < (sumB B : Nat) := by omega
                    by_cases hn : E.length ≤ 65
                    · have hn1 : ¬ (65 : Int) < E.length := by omega
                      repeat' (first | (simp -dsimp only [↓reduceIte, go_sem, t3, t10, cj, hlt2, hs1, hn1]) | (refine arr_intro fun _ => ?_) | (refine later_intro ⟨keeps_nil, ?_⟩) | (refine later_intro ⟨keeps_refl, ?_⟩) | (with_reducible refine keeps_go ?_ ?_; focus (first | (simp [keeps_cons, keeps_none, objs_app, objs_app0]; done) | (simp only [keeps_cons, keeps_none, objs_app0, objs_app, and_true]; first | rfl | exact ⟨rfl, rfl⟩ | exact ⟨rfl, rfl, rfl⟩))) | (with_reducible refine (And.intro (a := keeps _ _ _) ?_ ?_); focus (first | (simp [keeps_cons, keeps_none, objs_app, objs_app0]; done) | (simp only [keeps_cons, keeps_none, objs_app0, objs_app, and_true]; first | rfl | exact ⟨rfl, rfl⟩ | exact ⟨rfl, rfl, rfl⟩))) | (refine both_ways ?_ ?_) | (rw [wrap_i64 (by omega) (by omega)]) | (refine guardV_split (fun h => ?_) (fun h => ?_) <;> (try rw [h]) <;> (try simp at h) <;> (try (exfalso; omega))) | (refine blocksR_c cj (by omega) hBd' ?_))
                      exact hT (he2.2 ⟨hcn2, by omega, hn⟩) _ _ hx
                    · have hn1 : (65 : Int) < E.length := by omega
                      repeat' (first | (simp -dsimp only [↓reduceIte, go_sem, t3, t10, cj, hlt2, hs1, hn1]) | (refine arr_intro fun _ => ?_) | (refine later_intro ⟨keeps_nil, ?_⟩) | (refine later_intro ⟨keeps_refl, ?_⟩) | (with_reducible refine keeps_go ?_ ?_; focus (first | (simp [keeps_cons, keeps_none, objs_app, objs_app0]; done) | (simp only [keeps_cons, keeps_none, objs_app0, objs_app, and_true]; first | rfl | exact ⟨rfl, rfl⟩ | exact ⟨rfl, rfl, rfl⟩))) | (with_reducible refine (And.intro (a := keeps _ _ _) ?_ ?_); focus (first | (simp [keeps_cons, keeps_none, objs_app, objs_app0]; done) | (simp only [keeps_cons, keeps_none, objs_app0, objs_app, and_true]; first | rfl | exact ⟨rfl, rfl⟩ | exact ⟨rfl, rfl, rfl⟩))) | (refine both_ways ?_ ?_) | (rw [wrap_i64 (by omega) (by omega)]) | (refine guardV_split (fun h => ?_) (fun h => ?_) <;> (try rw [h]) <;> (try simp at h) <;> (try (exfalso; omega))) | (refine blocksR_c cj (by omega) hBd' ?_))
                      exact hF (fun ho => hn (he2.1 ho).2.2) _ hx
                  · have hs1 : (64 : Int) < (sumB B : Nat) := by omega
                    repeat' (first | (simp -dsimp only [↓reduceIte, go_sem, t3, t10, cj, hlt2, hs1]) | (refine arr_intro fun _ => ?_) | (refine later_intro ⟨keeps_nil, ?_⟩) | (refine later_intro ⟨keeps_refl, ?_⟩) | (with_reducible refine keeps_go ?_ ?_; focus (first | (simp [keeps_cons, keeps_none, objs_app, objs_app0]; done) | (simp only [keeps_cons, keeps_none, objs_app0, objs_app, and_true]; first | rfl | exact ⟨rfl, rfl⟩ | exact ⟨rfl, rfl, rfl⟩))) | (with_reducible refine (And.intro (a := keeps _ _ _) ?_ ?_); focus (first | (simp [keeps_cons, keeps_none, objs_app, objs_app0]; done) | (simp only [keeps_cons, keeps_none, objs_app0, objs_app, and_true]; first | rfl | exact ⟨rfl, rfl⟩ | exact ⟨rfl, rfl, rfl⟩))) | (refine both_ways ?_ ?_) | (rw [wrap_i64 (by omega) (by omega)]) | (refine guardV_split (fun h => ?_) (fun h => ?_) <;> (try rw [h]) <;> (try simp at h) <;> (try (exfalso; omega))) | (refine blocksR_c cj (by omega) hBd' ?_))
                    exact hF (fun ho => hs (by have := (he2.1 ho).2.1; omega)) _ hx
    · refine hF (fun ho => ?_) _ (Ext.refl _)
      obtain ⟨x, hx, hx2, _⟩ := ho.r
      rw [List.getElem?_map, hy] at hx; cases hx; contradiction
    · contradiction
end Go.Aff.L10

