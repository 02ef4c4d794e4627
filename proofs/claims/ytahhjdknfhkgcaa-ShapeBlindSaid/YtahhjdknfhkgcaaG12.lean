import Derived.Test.YtahhjdknfhkgcaaG11
import Derived.Test.YtahhjdknfhkgcaaG7
import Derived.Test.YtahhjdknfhkgcaaG1

set_option linter.unusedSimpArgs false
set_option linter.unusedVariables false

namespace Go.Aff.L10
open Go.Proofs Go.Aff Go.Aff.L01 Classical
set_option maxRecDepth 20000
attribute [local go_sem] push_app app_app length_app cellAt_app cellAt_app0 set_app set_app0 objs_app objs_app0 List.cons_append List.nil_append List.length_cons List.length_nil List.getElem?_cons_zero List.getElem?_cons_succ List.set_cons_zero List.set_cons_succ List.length_map
attribute [-go_sem] cellAt_new
attribute [-simp] List.length_flatMap
attribute [local go_sem] Try.underlying9 Try.underlying50
attribute [local go_sem] fits3 fits9 fits31
attribute [local go_sem ↓] blockQ_exit2
attribute [local go_sem] vnPs_0 vnPs_1 vnPs_2 vnPs_3 vnSet_0 vnSet_1 vnSet_2 vnSet_3 vnAt_0 vnAt_1 vnAt_2 vnAt_3 zero_vn zt_vn built_vn fits177 fits172 voAt zero174 zt174 built174 Try.underlying172 Try.underlying174 Try.underlying176 Try.underlying177 Try.underlying179
attribute [local go_sem] ndPs_0 ndAt_0 ndPs_1 ndAt_1 ndPs_2 ndAt_2 ndPs_3 ndAt_3 ndPs_4 ndAt_4 sizes_nd shapes_nd fits_nd zero_nd zt_nd Try.underlying102 Try.underlying52 Try.underlying43 fits43
open Go.Aff.L31
def gN (x : Node) : Nd := ⟨x.num, decide (x.kind = 1), x.nodes⟩
def Asc (l : List Node) : Prop := ∀ (i : Nat) x, l[i]? = some x → ∀ y, 0 < i → l[i - 1]? = some y → y.num < x.num
structure VolOk (l : List Node) : Prop where
  r : ∃ x, l[0]? = some x ∧ x.num = 1 ∧ x.kind = 1
  c : Cond (l.map gN) 6 1 (fun _ => 0)
  u : ∀ x ∈ l, x.num ≠ 1 → 0 < (U (l.map gN) 6 1).count x.num
  b : (l.map fun x => blkV x.data.length).sum ≤ 64
  n : (l.map fun x => x.names.length).sum ≤ 64
def vnK (n : VN) : Int × Int × List UInt8 × List (Nat × List UInt8 × Int) × Nat := (n.num, n.kind, n.data, n.ch, n.ck)
def nK (x : Node) : Int × Int × List UInt8 × List (Nat × List UInt8 × Int) × Nat := (x.num, x.kind, x.data, chI x x.names.length, x.names.length)
def Made (l : List Node) (Ns : List VN) : Prop := Ns.map vnK = l.map nK
theorem made_num {l : List Node} {Ns : List VN} (h : Made l Ns) : Ns.map (·.num) = l.map (·.num) := by
  have := congrArg (List.map (·.1)) h
  rw [List.map_map, List.map_map] at this; exact this
theorem at_new {l : List TNd} {i : Nat} {y : TNd} (hy : l[i]? = some y) {Ns : List VN} {n : VN} (hM : Made ((l.map (·.x)).take i) Ns) (hn : vnK n = nK y.x) : Made ((l.map (·.x)).take (i + 1)) (Ns ++ [n]) := by
  have hy' : (l.map (·.x))[i]? = some y.x := by rw [List.getElem?_map, hy]; rfl
  have e : (l.map (·.x)).take (i + 1) = (l.map (·.x)).take i ++ [y.x] := by
    rw [List.take_add_one, hy']; rfl
  unfold Made at *
  rw [e, List.map_append, List.map_append, hM, List.map_singleton, List.map_singleton, hn]
theorem asc_lt {l : List Node} (h : Asc l) : ∀ (d : Nat) {i : Nat} {x y : Node}, l[i]? = some x → l[i + 1 + d]? = some y → x.num < y.num
  | 0, i, x, y, hx, hy => h (i + 1) y hy x (by omega) hx
  | d + 1, i, x, y, hx, hy => by
    have hl := (List.getElem?_eq_some_iff.1 hy).1
    have hz : l[i + 1 + d]? = some l[i + 1 + d] := List.getElem?_eq_getElem (by omega)
    have h1 := asc_lt h d hx hz
    have h2 := h (i + 1 + (d + 1)) y hy _ (by omega) (by rw [show i + 1 + (d + 1) - 1 = i + 1 + d by omega]; exact hz)
    omega
theorem num_new {l : List TNd} (h : Asc (l.map (·.x))) {i : Nat} {y : TNd} (hy : l[i]? = some y) {Ns : List VN} (hM : Made ((l.map (·.x)).take i) Ns) : ∀ p ∈ Ns, p.num ≠ y.x.num := by
  intro p hp e
  have h1 : p.num ∈ ((l.map (·.x)).take i).map (·.num) := by rw [← made_num hM]; exact List.mem_map.2 ⟨p, hp, rfl⟩
  obtain ⟨x, hx, he⟩ := List.mem_map.1 h1
  obtain ⟨k, hk⟩ := List.mem_iff_getElem?.1 hx
  rw [List.getElem?_take] at hk
  split at hk
  · rename_i hki
    have hy' : (l.map (·.x))[k + 1 + (i - k - 1)]? = some y.x := by rw [show k + 1 + (i - k - 1) = i by omega, List.getElem?_map, hy]; rfl
    have := asc_lt h _ hk hy'
    rw [he, e] at this
    omega
  · cases hk
theorem made_gr {l : List Node} {Ns : List VN} (h : Made l Ns) (hl : ∀ x ∈ l, x.names.length = x.nodes.length) : grOf Ns = l.map gN := by
  have h1 : grOf Ns = (Ns.map vnK).map fun x => (⟨x.1, decide (x.2.1 = 1), x.2.2.2.1.map (·.2.2)⟩ : Nd) := by unfold grOf; rw [List.map_map]; rfl
  rw [h1, h, List.map_map]
  refine List.map_congr_left fun x hx => ?_
  have := chI_all (hl x hx)
  change (⟨x.num, decide (x.kind = 1), (chI x x.names.length).map (·.2.2)⟩ : Nd) = ⟨x.num, decide (x.kind = 1), x.nodes⟩
  rw [this]
theorem made_b {l : List Node} {Ns : List VN} (h : Made l Ns) : (Ns.map fun n => blkV n.data.length) = l.map fun x => blkV x.data.length := by
  have h1 : (Ns.map fun n => blkV n.data.length) = (Ns.map vnK).map fun x => blkV x.2.2.1.length := by rw [List.map_map]; rfl
  rw [h1, h, List.map_map]; rfl
theorem made_c {l : List Node} {Ns : List VN} (h : Made l Ns) : (Ns.map fun n => n.ch.length) = l.map fun x => x.names.length := by
  have h1 : (Ns.map fun n => n.ch.length) = (Ns.map vnK).map fun x => x.2.2.2.1.length := by rw [List.map_map]; rfl
  rw [h1, h, List.map_map]
  exact List.map_congr_left fun x hx => by simp [nK, chI_len]
theorem made_mem {l : List Node} {Ns : List VN} (h : Made l Ns) {n : VN} (hn : n ∈ Ns) : ∃ x ∈ l, vnK n = nK x := by
  have : vnK n ∈ l.map nK := by rw [← h]; exact List.mem_map_of_mem hn
  obtain ⟨x, hx, e⟩ := List.mem_map.1 this
  exact ⟨x, hx, e.symm⟩
theorem made_mem2 {l : List Node} {Ns : List VN} (h : Made l Ns) {x : Node} (hx : x ∈ l) : ∃ n ∈ Ns, vnK n = nK x := by
  have : nK x ∈ Ns.map vnK := by rw [h]; exact List.mem_map_of_mem hx
  obtain ⟨n, hn, e⟩ := List.mem_map.1 this
  exact ⟨n, hn, e⟩
theorem shp_mp {a b : Option Nat} : ((AV.mp a).shape = (AV.mp b).shape) = True := eq_true rfl
attribute [local go_sem] shp_mp
theorem of_c {L : List TNd} {t : Tk} {s : AST} {K : AV → AST → Prop} (hP : ∀ y ∈ L, PlainN y.x) (hA : Asc (L.map (·.x))) (hl : L.length ≤ 80)
    (hT : VolOk (L.map (·.x)) → ∀ s' j, Ext s s' → K (.tuple [.ptr (some (j, [])), .int .i64 0]) s') (hF : ¬ VolOk (L.map (·.x)) → ∀ s', Ext s s' → K (.tuple [.ptr none, .int .i64 6]) s') :
    TCalls Try.prog 75 [.slice t (L.map ndX)] s K := by
  refine tcalls_walk Try.f75 _ [.tmp 2, .tmp 3] Try.func75 rfl rfl rfl mixed (Nat.le_of_ble_eq_true rfl) rfl fun hlen => ?_
  repeat' (first | (simp -dsimp only [↓reduceIte, go_sem]) | (refine arr_intro fun _ => ?_) | (refine later_intro ⟨keeps_nil, ?_⟩) | (refine later_intro ⟨keeps_refl, ?_⟩) | (with_reducible refine keeps_go ?_ ?_; focus (first | (simp [keeps_cons, keeps_none, objs_app, objs_app0]; done) | (simp only [keeps_cons, keeps_none, objs_app0, objs_app, and_true]; first | rfl | exact ⟨rfl, rfl⟩ | exact ⟨rfl, rfl, rfl⟩))) | (with_reducible refine (And.intro (a := keeps _ _ _) ?_ ?_); focus (first | (simp [keeps_cons, keeps_none, objs_app, objs_app0]; done) | (simp only [keeps_cons, keeps_none, objs_app0, objs_app, and_true]; first | rfl | exact ⟨rfl, rfl⟩ | exact ⟨rfl, rfl, rfl⟩))) | (refine both_ways ?_ ?_) | (rw [wrap_i64 (by omega) (by omega)]) | (refine guardV_split (fun h => ?_) (fun h => ?_) <;> (try rw [h]) <;> (try simp at h) <;> (try (exfalso; omega))))
  have hV0 : VF s ((s.app [.map [] 0]).app [.cells (.agg [.mp (some s.objs.length)])]) (s.objs.length + 1) s.objs.length [] (fun _ => 0) [] := by
    refine ⟨(Ext.app _ _).trans (Ext.app _ _), ?_, ⟨[], 0, ?_, rfl, by simp, by simp⟩, by simp, by simp, by simp, by simp, by simp, by simp, by simp, by simp⟩
    · have : (s.app [.map [] 0]).objs.length = s.objs.length + 1 := by simp [AST.app]
      rw [← this]; exact objs_app0
    · exact ext_knownV (Ext.app _ _) objs_app0
  generalize hj0 : s.objs.length + 1 = j at *
  generalize hm0 : s.objs.length = mi at *
  have hjm : j ≠ mi := by omega
  have ha0 : (s.app [.map [] 0]).app [.cells (.agg [.mp (some mi)])] = s.app [.map [] 0, .cells (.agg [.mp (some mi)])] := by simp [AST.app]
  rw [ha0] at hV0
  generalize s.app [.map [] 0, .cells (.agg [.mp (some mi)])] = s0 at hV0 ⊢
  refine awp_rounds (fun (i : Nat) τ s' => ∃ Ns, i ≤ L.length ∧ Made ((L.map (·.x)).take i) Ns ∧ (∀ p ∈ Ns, p.mn ≠ some mi) ∧ VF s s' j mi Ns (fun _ => 0) [] ∧ (0 < i → ∃ y, L[0]? = some y ∧ y.x.num = 1 ∧ y.x.kind = 1) ∧ τ 0 = .slice t (L.map ndX) ∧ τ 4 = .ptr (some (j, [])) ∧ τ 15 = .slice t (L.map ndX) ∧ τ 16 = .int .i64 L.length ∧ τ 17 = .int .i64 i) (fun i => L.length - i) 0 ?_ ?_
  · refine ⟨[], by omega, rfl, by simp, hV0, by omega, ?_, ?_, ?_, ?_, ?_⟩ <;> (try simp only [go_sem]) <;> (try rfl)
  · rintro i τ s' ⟨Ns, hi, hM, hmm, hV, hR, t0, t4, t15, t16, t17⟩
    by_cases hb : i < L.length
    · have hlt1 : (i : Int) < L.length := by omega
      have hy : L[i]? = some L[i] := List.getElem?_eq_getElem hb
      have hpy := hP _ (List.getElem_mem hb)
      generalize L[i] = y at hy hpy
      have w1 : IntKind.i64.wrap ((i : Int) + 1) = (i : Int) + 1 := wrap_i64 (by omega) (by omega)
      have hcases : i = 0 ∨ ∃ y', 0 < i ∧ L[i - 1]? = some y' ∧ y'.x.num < y.x.num := by
        by_cases h0 : i = 0
        · exact Or.inl h0
        · refine Or.inr ⟨L[i - 1], by omega, List.getElem?_eq_getElem (by omega), hA i y.x (by rw [List.getElem?_map, hy]; rfl) _ (by omega) (by rw [List.getElem?_map, List.getElem?_eq_getElem (by omega)]; rfl)⟩
      rcases hcases with rfl | ⟨y', hi0, hy', hlt'⟩
      · repeat' (first | (simp -dsimp only [↓reduceIte, go_sem, t0, t4, t15, t16, t17, hlt1, ndX]) | (refine arr_intro fun _ => ?_) | (refine later_intro ⟨keeps_nil, ?_⟩) | (refine later_intro ⟨keeps_refl, ?_⟩) | (with_reducible refine keeps_go ?_ ?_; focus (first | (simp [keeps_cons, keeps_none, objs_app, objs_app0]; done) | (simp only [keeps_cons, keeps_none, objs_app0, objs_app, and_true]; first | rfl | exact ⟨rfl, rfl⟩ | exact ⟨rfl, rfl, rfl⟩))) | (with_reducible refine (And.intro (a := keeps _ _ _) ?_ ?_); focus (first | (simp [keeps_cons, keeps_none, objs_app, objs_app0]; done) | (simp only [keeps_cons, keeps_none, objs_app0, objs_app, and_true]; first | rfl | exact ⟨rfl, rfl⟩ | exact ⟨rfl, rfl, rfl⟩))) | (refine both_ways ?_ ?_) | (rw [wrap_i64 (by omega) (by omega)]) | (refine guardV_split (fun h => ?_) (fun h => ?_) <;> (try rw [h]) <;> (try simp at h) <;> (try (exfalso; omega))) | (with_reducible refine awp_drawS (id := 5) [0, 1, 2, 3, 4, 5, 6, 7, 8, 9, 10, 11, 12, 13, 14, 15, 16, 17, 18, 19, 20, 21, 22, 23, 24, 25, 26, 27, 28, 29, 30, 31] (by kernel_rfl) ?_) | (refine nth_get hy ?_) | (refine plain_c hpy ?_))
        · have hrt : y.x.num = 1 := by assumption
          have hkd : y.x.kind = 1 := by assumption
          have hb1 := hV.lts
          have hvb := ((hV.box (.cells (ndV y.t y.u y.x))).box (.cells (.agg (vnPs y.x.kind 0 y.x.data (some (s'.objs.length + 2)))))).box (.map [] 0)
          have l1 : (s'.app [.cells (ndV y.t y.u y.x)]).objs.length = s'.objs.length + 1 := by simp [AST.app]
          have l2 : ((s'.app [.cells (ndV y.t y.u y.x)]).app [.cells (.agg (vnPs y.x.kind 0 y.x.data (some (s'.objs.length + 2))))]).objs.length = s'.objs.length + 2 := by simp [AST.app]
          rw [l2, l1] at hvb
          have ea : ((s'.app [.cells (ndV y.t y.u y.x)]).app [.cells (.agg (vnPs y.x.kind 0 y.x.data (some (s'.objs.length + 2))))]).app [.map [] 0] = s'.app [.cells (ndV y.t y.u y.x), .cells (.agg (vnPs y.x.kind 0 y.x.data (some (s'.objs.length + 2)))), .map [] 0] := by simp [AST.app]
          rw [ea] at hvb
          clear ea l1 l2
          generalize hk0 : s'.objs.length = k0 at hvb hb1 ⊢
          have hsk : s.objs.length ≤ k0 := by obtain ⟨O, T, rfl⟩ := hV.x; rw [← hk0]; simp
          generalize s'.app _ = s1 at hvb ⊢
          refine awp_rounds (fun (q : Nat) τ s2 => q ≤ y.x.names.length ∧ VF s s2 j mi Ns (fun _ => 0) ((k0 + 2, .map ((chI y.x q).map entS) q) :: [(k0 + 1, .cells (.agg (vnPs y.x.kind 0 y.x.data (some (k0 + 2))))), (k0, .cells (ndV y.t y.u y.x))]) ∧ τ 0 = .slice t (L.map ndX) ∧ τ 4 = .ptr (some (j, [])) ∧ τ 15 = .slice t (L.map ndX) ∧ τ 16 = .int .i64 L.length ∧ τ 17 = .int .i64 (0 : Nat) ∧ τ 6 = .ptr (some (k0, [])) ∧ τ 7 = .ptr (some (k0 + 1, [])) ∧ τ 68 = .slice y.t (y.x.names.map AV.str) ∧ τ 69 = .int .i64 y.x.names.length ∧ τ 70 = .int .i64 q) (fun q => y.x.names.length - q) 0 ?_ ?_
          · refine ⟨by omega, hvb, ?_, ?_, ?_, ?_, ?_, ?_, ?_, ?_, ?_, ?_⟩ <;> (try simp only [go_sem]) <;> (try first | rfl | exact t0 | exact t4 | exact t15 | exact t16 | exact t17)
          · clear hvb
            rintro q τ2 s2 ⟨hq, hv2, u0, u4, u15, u16, u17, u6, u7, u68, u69, u70⟩
            have ca := cellAt_known (hv2.f (k0, .cells (ndV y.t y.u y.x)) (by simp)).1
            have cb := cellAt_known (hv2.f (k0 + 1, .cells (.agg (vnPs y.x.kind 0 y.x.data (some (k0 + 2))))) (by simp)).1
            have oq := (hv2.f _ (List.mem_cons_self ..)).1
            dsimp only at ca cb oq
            by_cases hqb : q < y.x.names.length
            · have hq1 : (q : Int) < y.x.names.length := by omega
              have hz : y.x.names[q]? = some y.x.names[q] := List.getElem?_eq_getElem hqb
              have hc : y.x.nodes[q]? = some (y.x.nodes[q]'(by rw [← hpy.l]; exact hqb)) := List.getElem?_eq_getElem _
              have hzn := names_new hpy.s hz
              generalize y.x.names[q] = z at hz hzn
              generalize y.x.nodes[q]'_ = c at hc
              have w5 : IntKind.i64.wrap ((q : Int) + 1) = (q : Int) + 1 := wrap_i64 (by have := hpy.b; omega) (by have := hpy.b; omega)
              have hv3 := hv2.setF (o' := .map ((chI y.x (q + 1)).map entS) (q + 1)) (by omega) (fun y hy => by simp at hy; rcases hy with rfl | rfl <;> simp)
              repeat' (first | (simp -dsimp only [↓reduceIte, go_sem, u0, u4, u15, u16, u17, u6, u7, u68, u69, u70, ca, cb, hq1, w5, ndX]) | (refine arr_intro fun _ => ?_) | (refine later_intro ⟨keeps_nil, ?_⟩) | (refine later_intro ⟨keeps_refl, ?_⟩) | (with_reducible refine keeps_go ?_ ?_; focus (first | (simp [keeps_cons, keeps_none, objs_app, objs_app0]; done) | (simp only [keeps_cons, keeps_none, objs_app0, objs_app, and_true]; first | rfl | exact ⟨rfl, rfl⟩ | exact ⟨rfl, rfl, rfl⟩))) | (with_reducible refine (And.intro (a := keeps _ _ _) ?_ ?_); focus (first | (simp [keeps_cons, keeps_none, objs_app, objs_app0]; done) | (simp only [keeps_cons, keeps_none, objs_app0, objs_app, and_true]; first | rfl | exact ⟨rfl, rfl⟩ | exact ⟨rfl, rfl, rfl⟩))) | (refine both_ways ?_ ?_) | (rw [wrap_i64 (by omega) (by omega)]) | (refine guardV_split (fun h => ?_) (fun h => ?_) <;> (try rw [h]) <;> (try simp at h) <;> (try (exfalso; omega))) | (with_reducible refine awp_drawT (id := 13) (.op 0 2 (.op 1 2 (.op 2 2 (.op 3 2 (.op 4 2 (.op 5 2 (.op 6 2 (.op 7 2 (.op 8 2 (.op 9 2 (.op 10 1 .nil))))))))))) (by kernel_rfl) ?_) | (refine nth_get hz ?_) | (refine nth_get hc ?_) | (refine updS oq hz hc hzn ?_))
              refine later_intro ⟨q + 1, by omega, by omega, hv3, ?_, ?_, ?_, ?_, ?_, ?_, ?_, ?_, ?_, ?_⟩ <;> (try simp only [go_sem, u0, u4, u15, u16, u17, u6, u7, u68, u69, u70]) <;> (try rfl)
            · obtain rfl : q = y.x.names.length := by omega
              have hq1 : ¬ ((y.x.names.length : Nat) : Int) < y.x.names.length := by omega
              have hcj := cellAt_known hv2.o
              have hfr : Fresh s s2 j mi Ns ⟨y.x.num, y.x.kind, y.x.data, chI y.x y.x.names.length, y.x.names.length, k0 + 1, some (k0 + 2)⟩ := by
                refine ⟨(hv2.f (k0 + 1, _) (by simp)).1, fun q hq => by cases hq; exact oq, ⟨by have := hb1.1; dsimp only; omega, by have := hb1.2.1; dsimp only; omega, by simp, fun p hp => ?_⟩, ⟨by have := hb1.2.1; simp; omega, by have := hb1.1; simp; omega⟩, by dsimp only; omega, ⟨chI_mark, chI_nodup, fun _ => ⟨_, rfl⟩, fun hk => absurd (by assumption) hk⟩, num_new hA hy hM⟩
                obtain ⟨a1, a2⟩ := hb1.2.2.1 p hp
                dsimp only
                refine ⟨by omega, fun e => ?_, fun e => ?_⟩
                · have := a2 _ e; omega
                · injection e with e; omega
              repeat' (first | (simp -dsimp only [↓reduceIte, go_sem, u0, u4, u15, u16, u17, u6, u7, u68, u69, u70, ca, cb, hq1, hcj, w1, ndX]) | (refine arr_intro fun _ => ?_) | (refine later_intro ⟨keeps_nil, ?_⟩) | (refine later_intro ⟨keeps_refl, ?_⟩) | (with_reducible refine keeps_go ?_ ?_; focus (first | (simp [keeps_cons, keeps_none, objs_app, objs_app0]; done) | (simp only [keeps_cons, keeps_none, objs_app0, objs_app, and_true]; first | rfl | exact ⟨rfl, rfl⟩ | exact ⟨rfl, rfl, rfl⟩))) | (with_reducible refine (And.intro (a := keeps _ _ _) ?_ ?_); focus (first | (simp [keeps_cons, keeps_none, objs_app, objs_app0]; done) | (simp only [keeps_cons, keeps_none, objs_app0, objs_app, and_true]; first | rfl | exact ⟨rfl, rfl⟩ | exact ⟨rfl, rfl, rfl⟩))) | (refine both_ways ?_ ?_) | (rw [wrap_i64 (by omega) (by omega)]) | (refine guardV_split (fun h => ?_) (fun h => ?_) <;> (try rw [h]) <;> (try simp at h) <;> (try (exfalso; omega))) | (with_reducible refine awp_drawT (id := 15) (.op 0 2 (.op 1 2 (.op 2 2 (.op 3 2 (.op 4 2 (.op 5 2 (.op 6 2 (.op 7 1 .nil)))))))) (by kernel_rfl) ?_) | (refine updV hv2.less.less.less hjm (by omega) hmm hfr (fun s4 hv4 _ _ => ?_)))
              refine later_intro ⟨0 + 1, by omega, Ns ++ [_], by omega, at_new hy hM rfl, ?_, hv4, fun _ => ⟨y, hy, hrt, hkd⟩, ?_, ?_, ?_, ?_, ?_⟩ <;> (try simp only [go_sem, u0, u4, u15, u16, u17]) <;> (try rfl)
              intro p hp
              rcases List.mem_append.1 hp with hp | hp
              · exact hmm p hp
              · simp at hp; subst hp
                have := hb1.2.1
                simp; omega
        all_goals
          refine hF (fun ho => ?_) _ (hV.x.trans (Ext.app _ _))
          obtain ⟨x, hx, hx1, hx2⟩ := ho.r
          rw [List.getElem?_map, hy] at hx
          cases hx
          contradiction
      · have hz1 : ¬ (i : Int) = 0 := by omega
        have hz2 : (0 : Int) < i := by omega
        have hz3 : ¬ y.x.num ≤ y'.x.num := by omega
        have w2 : IntKind.i64.wrap ((i : Int) - 1) = ((i - 1 : Nat) : Int) := by rw [wrap_i64 (by omega) (by omega)]; omega
        repeat' (first | (simp -dsimp only [↓reduceIte, go_sem, t0, t4, t15, t16, t17, hlt1, ndX, hz1, hz2, hz3, w2]) | (refine arr_intro fun _ => ?_) | (refine later_intro ⟨keeps_nil, ?_⟩) | (refine later_intro ⟨keeps_refl, ?_⟩) | (with_reducible refine keeps_go ?_ ?_; focus (first | (simp [keeps_cons, keeps_none, objs_app, objs_app0]; done) | (simp only [keeps_cons, keeps_none, objs_app0, objs_app, and_true]; first | rfl | exact ⟨rfl, rfl⟩ | exact ⟨rfl, rfl, rfl⟩))) | (with_reducible refine (And.intro (a := keeps _ _ _) ?_ ?_); focus (first | (simp [keeps_cons, keeps_none, objs_app, objs_app0]; done) | (simp only [keeps_cons, keeps_none, objs_app0, objs_app, and_true]; first | rfl | exact ⟨rfl, rfl⟩ | exact ⟨rfl, rfl, rfl⟩))) | (refine both_ways ?_ ?_) | (rw [wrap_i64 (by omega) (by omega)]) | (refine guardV_split (fun h => ?_) (fun h => ?_) <;> (try rw [h]) <;> (try simp at h) <;> (try (exfalso; omega))) | (with_reducible refine awp_drawS (id := 5) [0, 1, 2, 3, 4, 5, 6, 7, 8, 9, 10, 11, 12, 13, 14, 15, 16, 17, 18, 19, 20, 21, 22, 23, 24, 25, 26, 27, 28, 29, 30, 31] (by kernel_rfl) ?_) | (refine nth_get hy ?_) | (refine plain_c hpy ?_) | (refine nth_get hy' ?_))
        · have hkd : y.x.kind = 1 := by assumption
          have hb1 := hV.lts
          have hvb := ((hV.box (.cells (ndV y.t y.u y.x))).box (.cells (.agg (vnPs y.x.kind 0 y.x.data (some (s'.objs.length + 2)))))).box (.map [] 0)
          have l1 : (s'.app [.cells (ndV y.t y.u y.x)]).objs.length = s'.objs.length + 1 := by simp [AST.app]
          have l2 : ((s'.app [.cells (ndV y.t y.u y.x)]).app [.cells (.agg (vnPs y.x.kind 0 y.x.data (some (s'.objs.length + 2))))]).objs.length = s'.objs.length + 2 := by simp [AST.app]
          rw [l2, l1] at hvb
          have ea : ((s'.app [.cells (ndV y.t y.u y.x)]).app [.cells (.agg (vnPs y.x.kind 0 y.x.data (some (s'.objs.length + 2))))]).app [.map [] 0] = s'.app [.cells (ndV y.t y.u y.x), .cells (.agg (vnPs y.x.kind 0 y.x.data (some (s'.objs.length + 2)))), .map [] 0] := by simp [AST.app]
          rw [ea] at hvb
          clear ea l1 l2
          generalize hk0 : s'.objs.length = k0 at hvb hb1 ⊢
          have hsk : s.objs.length ≤ k0 := by obtain ⟨O, T, rfl⟩ := hV.x; rw [← hk0]; simp
          generalize s'.app _ = s1 at hvb ⊢
          refine awp_rounds (fun (q : Nat) τ s2 => q ≤ y.x.names.length ∧ VF s s2 j mi Ns (fun _ => 0) ((k0 + 2, .map ((chI y.x q).map entS) q) :: [(k0 + 1, .cells (.agg (vnPs y.x.kind 0 y.x.data (some (k0 + 2))))), (k0, .cells (ndV y.t y.u y.x))]) ∧ τ 0 = .slice t (L.map ndX) ∧ τ 4 = .ptr (some (j, [])) ∧ τ 15 = .slice t (L.map ndX) ∧ τ 16 = .int .i64 L.length ∧ τ 17 = .int .i64 (i : Nat) ∧ τ 6 = .ptr (some (k0, [])) ∧ τ 7 = .ptr (some (k0 + 1, [])) ∧ τ 68 = .slice y.t (y.x.names.map AV.str) ∧ τ 69 = .int .i64 y.x.names.length ∧ τ 70 = .int .i64 q) (fun q => y.x.names.length - q) 0 ?_ ?_
          · refine ⟨by omega, hvb, ?_, ?_, ?_, ?_, ?_, ?_, ?_, ?_, ?_, ?_⟩ <;> (try simp only [go_sem]) <;> (try first | rfl | exact t0 | exact t4 | exact t15 | exact t16 | exact t17)
          · clear hvb
            rintro q τ2 s2 ⟨hq, hv2, u0, u4, u15, u16, u17, u6, u7, u68, u69, u70⟩
            have ca := cellAt_known (hv2.f (k0, .cells (ndV y.t y.u y.x)) (by simp)).1
            have cb := cellAt_known (hv2.f (k0 + 1, .cells (.agg (vnPs y.x.kind 0 y.x.data (some (k0 + 2))))) (by simp)).1
            have oq := (hv2.f _ (List.mem_cons_self ..)).1
            dsimp only at ca cb oq
            by_cases hqb : q < y.x.names.length
            · have hq1 : (q : Int) < y.x.names.length := by omega
              have hz : y.x.names[q]? = some y.x.names[q] := List.getElem?_eq_getElem hqb
              have hc : y.x.nodes[q]? = some (y.x.nodes[q]'(by rw [← hpy.l]; exact hqb)) := List.getElem?_eq_getElem _
              have hzn := names_new hpy.s hz
              generalize y.x.names[q] = z at hz hzn
              generalize y.x.nodes[q]'_ = c at hc
              have w5 : IntKind.i64.wrap ((q : Int) + 1) = (q : Int) + 1 := wrap_i64 (by have := hpy.b; omega) (by have := hpy.b; omega)
              have hv3 := hv2.setF (o' := .map ((chI y.x (q + 1)).map entS) (q + 1)) (by omega) (fun y hy => by simp at hy; rcases hy with rfl | rfl <;> simp)
              repeat' (first | (simp -dsimp only [↓reduceIte, go_sem, u0, u4, u15, u16, u17, u6, u7, u68, u69, u70, ca, cb, hq1, w5, ndX]) | (refine arr_intro fun _ => ?_) | (refine later_intro ⟨keeps_nil, ?_⟩) | (refine later_intro ⟨keeps_refl, ?_⟩) | (with_reducible refine keeps_go ?_ ?_; focus (first | (simp [keeps_cons, keeps_none, objs_app, objs_app0]; done) | (simp only [keeps_cons, keeps_none, objs_app0, objs_app, and_true]; first | rfl | exact ⟨rfl, rfl⟩ | exact ⟨rfl, rfl, rfl⟩))) | (with_reducible refine (And.intro (a := keeps _ _ _) ?_ ?_); focus (first | (simp [keeps_cons, keeps_none, objs_app, objs_app0]; done) | (simp only [keeps_cons, keeps_none, objs_app0, objs_app, and_true]; first | rfl | exact ⟨rfl, rfl⟩ | exact ⟨rfl, rfl, rfl⟩))) | (refine both_ways ?_ ?_) | (rw [wrap_i64 (by omega) (by omega)]) | (refine guardV_split (fun h => ?_) (fun h => ?_) <;> (try rw [h]) <;> (try simp at h) <;> (try (exfalso; omega))) | (with_reducible refine awp_drawT (id := 13) (.op 0 2 (.op 1 2 (.op 2 2 (.op 3 2 (.op 4 2 (.op 5 2 (.op 6 2 (.op 7 2 (.op 8 2 (.op 9 2 (.op 10 1 .nil))))))))))) (by kernel_rfl) ?_) | (refine nth_get hz ?_) | (refine nth_get hc ?_) | (refine updS oq hz hc hzn ?_))
              refine later_intro ⟨q + 1, by omega, by omega, hv3, ?_, ?_, ?_, ?_, ?_, ?_, ?_, ?_, ?_, ?_⟩ <;> (try simp only [go_sem, u0, u4, u15, u16, u17, u6, u7, u68, u69, u70]) <;> (try rfl)
            · obtain rfl : q = y.x.names.length := by omega
              have hq1 : ¬ ((y.x.names.length : Nat) : Int) < y.x.names.length := by omega
              have hcj := cellAt_known hv2.o
              have hfr : Fresh s s2 j mi Ns ⟨y.x.num, y.x.kind, y.x.data, chI y.x y.x.names.length, y.x.names.length, k0 + 1, some (k0 + 2)⟩ := by
                refine ⟨(hv2.f (k0 + 1, _) (by simp)).1, fun q hq => by cases hq; exact oq, ⟨by have := hb1.1; dsimp only; omega, by have := hb1.2.1; dsimp only; omega, by simp, fun p hp => ?_⟩, ⟨by have := hb1.2.1; simp; omega, by have := hb1.1; simp; omega⟩, by dsimp only; omega, ⟨chI_mark, chI_nodup, fun _ => ⟨_, rfl⟩, fun hk => absurd (by assumption) hk⟩, num_new hA hy hM⟩
                obtain ⟨a1, a2⟩ := hb1.2.2.1 p hp
                dsimp only
                refine ⟨by omega, fun e => ?_, fun e => ?_⟩
                · have := a2 _ e; omega
                · injection e with e; omega
              repeat' (first | (simp -dsimp only [↓reduceIte, go_sem, u0, u4, u15, u16, u17, u6, u7, u68, u69, u70, ca, cb, hq1, hcj, w1, ndX]) | (refine arr_intro fun _ => ?_) | (refine later_intro ⟨keeps_nil, ?_⟩) | (refine later_intro ⟨keeps_refl, ?_⟩) | (with_reducible refine keeps_go ?_ ?_; focus (first | (simp [keeps_cons, keeps_none, objs_app, objs_app0]; done) | (simp only [keeps_cons, keeps_none, objs_app0, objs_app, and_true]; first | rfl | exact ⟨rfl, rfl⟩ | exact ⟨rfl, rfl, rfl⟩))) | (with_reducible refine (And.intro (a := keeps _ _ _) ?_ ?_); focus (first | (simp [keeps_cons, keeps_none, objs_app, objs_app0]; done) | (simp only [keeps_cons, keeps_none, objs_app0, objs_app, and_true]; first | rfl | exact ⟨rfl, rfl⟩ | exact ⟨rfl, rfl, rfl⟩))) | (refine both_ways ?_ ?_) | (rw [wrap_i64 (by omega) (by omega)]) | (refine guardV_split (fun h => ?_) (fun h => ?_) <;> (try rw [h]) <;> (try simp at h) <;> (try (exfalso; omega))) | (with_reducible refine awp_drawT (id := 15) (.op 0 2 (.op 1 2 (.op 2 2 (.op 3 2 (.op 4 2 (.op 5 2 (.op 6 2 (.op 7 1 .nil)))))))) (by kernel_rfl) ?_) | (refine updV hv2.less.less.less hjm (by omega) hmm hfr (fun s4 hv4 _ _ => ?_)))
              refine later_intro ⟨i + 1, by omega, Ns ++ [_], by omega, at_new hy hM rfl, ?_, hv4, fun _ => hR hi0, ?_, ?_, ?_, ?_, ?_⟩ <;> (try simp only [go_sem, u0, u4, u15, u16, u17]) <;> (try rfl)
              intro p hp
              rcases List.mem_append.1 hp with hp | hp
              · exact hmm p hp
              · simp at hp; subst hp
                have := hb1.2.1
                simp; omega
        · have hkd : ¬ y.x.kind = 1 := by assumption
          have hb1 := hV.lts
          have hnm : y.x.names.length = 0 := by
            rcases hpy.k with ⟨_, hq, _⟩ | ⟨hq, _⟩
            · rw [hq]; rfl
            · contradiction
          have hvb := ((hV.box (.cells (ndV y.t y.u y.x))).box (.cells (.agg (vnPs y.x.kind 0 y.x.data none))))
          have l1 : (s'.app [.cells (ndV y.t y.u y.x)]).objs.length = s'.objs.length + 1 := by simp [AST.app]
          rw [l1] at hvb
          have ea : ((s'.app [.cells (ndV y.t y.u y.x)]).app [.cells (.agg (vnPs y.x.kind 0 y.x.data none))]) = s'.app [.cells (ndV y.t y.u y.x), .cells (.agg (vnPs y.x.kind 0 y.x.data none))] := by simp [AST.app]
          rw [ea] at hvb
          clear ea l1
          generalize hk0 : s'.objs.length = k0 at hvb hb1 ⊢
          have hsk : s.objs.length ≤ k0 := by obtain ⟨O, T, rfl⟩ := hV.x; rw [← hk0]; simp
          generalize s'.app _ = s1 at hvb ⊢
          refine awp_rounds (fun (q : Nat) τ s2 => q = 0 ∧ VF s s2 j mi Ns (fun _ => 0) [(k0 + 1, .cells (.agg (vnPs y.x.kind 0 y.x.data none))), (k0, .cells (ndV y.t y.u y.x))] ∧ τ 0 = .slice t (L.map ndX) ∧ τ 4 = .ptr (some (j, [])) ∧ τ 15 = .slice t (L.map ndX) ∧ τ 16 = .int .i64 L.length ∧ τ 17 = .int .i64 (i : Nat) ∧ τ 6 = .ptr (some (k0, [])) ∧ τ 7 = .ptr (some (k0 + 1, [])) ∧ τ 69 = .int .i64 y.x.names.length ∧ τ 70 = .int .i64 q) (fun q => y.x.names.length - q) 0 ?_ ?_
          · refine ⟨rfl, hvb, ?_, ?_, ?_, ?_, ?_, ?_, ?_, ?_, ?_⟩ <;> (try simp only [go_sem]) <;> (try first | rfl | exact t0 | exact t4 | exact t15 | exact t16 | exact t17)
          · clear hvb
            rintro q τ2 s2 ⟨rfl, hv2, u0, u4, u15, u16, u17, u6, u7, u69, u70⟩
            have ca := cellAt_known (hv2.f (k0, .cells (ndV y.t y.u y.x)) (by simp)).1
            have cb := cellAt_known (hv2.f (k0 + 1, .cells (.agg (vnPs y.x.kind 0 y.x.data none))) (by simp)).1
            dsimp only at ca cb
            have hq1 : ¬ ((0 : Nat) : Int) < ((y.x.names.length : Nat) : Int) := by omega
            have hcj := cellAt_known hv2.o
            have hfr : Fresh s s2 j mi Ns ⟨y.x.num, y.x.kind, y.x.data, chI y.x y.x.names.length, y.x.names.length, k0 + 1, none⟩ := by
              refine ⟨(hv2.f (k0 + 1, _) (by simp)).1, fun q hq => (by cases hq), ⟨by have := hb1.1; dsimp only; omega, by have := hb1.2.1; dsimp only; omega, by simp, fun p hp => ?_⟩, ⟨by simp, by simp⟩, by dsimp only; omega, ⟨chI_mark, chI_nodup, fun hk => by contradiction, fun _ => by dsimp only; rw [hnm]; rfl⟩, num_new hA hy hM⟩
              obtain ⟨a1, a2⟩ := hb1.2.2.1 p hp
              dsimp only
              refine ⟨by omega, fun e => ?_, by simp⟩
              have := a2 _ e; omega
            repeat' (first | (simp -dsimp only [↓reduceIte, go_sem, u0, u4, u15, u16, u17, u6, u7, u69, u70, ca, cb, hq1, hcj, w1, ndX]) | (refine arr_intro fun _ => ?_) | (refine later_intro ⟨keeps_nil, ?_⟩) | (refine later_intro ⟨keeps_refl, ?_⟩) | (with_reducible refine keeps_go ?_ ?_; focus (first | (simp [keeps_cons, keeps_none, objs_app, objs_app0]; done) | (simp only [keeps_cons, keeps_none, objs_app0, objs_app, and_true]; first | rfl | exact ⟨rfl, rfl⟩ | exact ⟨rfl, rfl, rfl⟩))) | (with_reducible refine (And.intro (a := keeps _ _ _) ?_ ?_); focus (first | (simp [keeps_cons, keeps_none, objs_app, objs_app0]; done) | (simp only [keeps_cons, keeps_none, objs_app0, objs_app, and_true]; first | rfl | exact ⟨rfl, rfl⟩ | exact ⟨rfl, rfl, rfl⟩))) | (refine both_ways ?_ ?_) | (rw [wrap_i64 (by omega) (by omega)]) | (refine guardV_split (fun h => ?_) (fun h => ?_) <;> (try rw [h]) <;> (try simp at h) <;> (try (exfalso; omega))) | (with_reducible refine awp_drawT (id := 15) (.op 0 2 (.op 1 2 (.op 2 2 (.op 3 2 (.op 4 2 (.op 5 2 (.op 6 2 (.op 7 1 .nil)))))))) (by kernel_rfl) ?_) | (refine updV hv2.less.less hjm (by omega) hmm hfr (fun s4 hv4 _ _ => ?_)))
            refine later_intro ⟨i + 1, by omega, Ns ++ [_], by omega, at_new hy hM rfl, ?_, hv4, fun _ => hR hi0, ?_, ?_, ?_, ?_, ?_⟩ <;> (try simp only [go_sem, u0, u4, u15, u16, u17]) <;> (try rfl)
            intro p hp
            rcases List.mem_append.1 hp with hp | hp
            · exact hmm p hp
            · simp at hp; subst hp; simp
    · obtain rfl : i = L.length := by omega
      have hlt1 : ¬ ((L.length : Nat) : Int) < L.length := by omega
      have e0 : (L.map (·.x)).take L.length = L.map (·.x) := by rw [List.take_of_length_le (by simp)]
      rw [e0] at hM
      have hlx : ∀ x ∈ L.map (·.x), x.names.length = x.nodes.length := fun x hx => by obtain ⟨y, hy, rfl⟩ := List.mem_map.1 hx; exact (hP y hy).l
      have hgr := made_gr hM hlx
      have hch : ∀ n ∈ Ns, n.ch.length ≤ 80 := fun n hn => by
        obtain ⟨x, hx, e⟩ := made_mem hM hn
        have : n.ch = chI x x.names.length := congrArg (·.2.2.2.1) e
        rw [this, chI_len]
        obtain ⟨y, hy, rfl⟩ := List.mem_map.1 hx; exact (hP y hy).b
      by_cases hz : L.length = 0
      · have hz1 : ((L.length : Nat) : Int) = 0 := by omega
        repeat' (first | (simp -dsimp only [↓reduceIte, go_sem, t0, t4, t15, t16, t17, hlt1, hz1, hz]) | (refine arr_intro fun _ => ?_) | (refine later_intro ⟨keeps_nil, ?_⟩) | (refine later_intro ⟨keeps_refl, ?_⟩) | (with_reducible refine keeps_go ?_ ?_; focus (first | (simp [keeps_cons, keeps_none, objs_app, objs_app0]; done) | (simp only [keeps_cons, keeps_none, objs_app0, objs_app, and_true]; first | rfl | exact ⟨rfl, rfl⟩ | exact ⟨rfl, rfl, rfl⟩))) | (with_reducible refine (And.intro (a := keeps _ _ _) ?_ ?_); focus (first | (simp [keeps_cons, keeps_none, objs_app, objs_app0]; done) | (simp only [keeps_cons, keeps_none, objs_app0, objs_app, and_true]; first | rfl | exact ⟨rfl, rfl⟩ | exact ⟨rfl, rfl, rfl⟩))) | (refine both_ways ?_ ?_) | (rw [wrap_i64 (by omega) (by omega)]) | (refine guardV_split (fun h => ?_) (fun h => ?_) <;> (try rw [h]) <;> (try simp at h) <;> (try (exfalso; omega))))
        all_goals
          refine hF (fun ho => ?_) _ hV.x
          obtain ⟨x, hx, _⟩ := ho.r
          have := (List.getElem?_eq_some_iff.1 hx).1
          simp at this; omega
      · have hz1 : ¬ ((L.length : Nat) : Int) = 0 := by omega
        obtain ⟨y, hy, hy1, hy2⟩ := hR (by omega)
        have hyx : y.x ∈ L.map (·.x) := List.mem_map_of_mem (List.mem_of_getElem? hy)
        obtain ⟨p, hp, hpe⟩ := made_mem2 hM hyx
        have hp1 : p.num = 1 := by rw [← hy1]; exact congrArg (·.1) hpe
        have hp2 : p.kind = 1 := by rw [← hy2]; exact congrArg (·.2.1) hpe
        have hrc := fun {K} a b => reach_c hch 6 (by omega) hV (fun _ => by simp) hp hp2 (K := K) a b
        rw [hp1, show (6 : Int) - ((6 : Nat) : Int) = 0 by omega, hgr] at hrc
        repeat' (first | (simp -dsimp only [↓reduceIte, go_sem, t0, t4, t15, t16, t17, hlt1, hz1, hz]) | (refine arr_intro fun _ => ?_) | (refine later_intro ⟨keeps_nil, ?_⟩) | (refine later_intro ⟨keeps_refl, ?_⟩) | (with_reducible refine keeps_go ?_ ?_; focus (first | (simp [keeps_cons, keeps_none, objs_app, objs_app0]; done) | (simp only [keeps_cons, keeps_none, objs_app0, objs_app, and_true]; first | rfl | exact ⟨rfl, rfl⟩ | exact ⟨rfl, rfl, rfl⟩))) | (with_reducible refine (And.intro (a := keeps _ _ _) ?_ ?_); focus (first | (simp [keeps_cons, keeps_none, objs_app, objs_app0]; done) | (simp only [keeps_cons, keeps_none, objs_app0, objs_app, and_true]; first | rfl | exact ⟨rfl, rfl⟩ | exact ⟨rfl, rfl, rfl⟩))) | (refine both_ways ?_ ?_) | (rw [wrap_i64 (by omega) (by omega)]) | (refine guardV_split (fun h => ?_) (fun h => ?_) <;> (try rw [h]) <;> (try simp at h) <;> (try (exfalso; omega))))
        · refine hrc (fun s2 hC hV2 => ?_) (fun s2 hC hx2 => ?_)
          · have hl0 : more (fun _ => 0) (U ((L.map (·.x)).map gN) 6 1) p.num = 0 := by
              rw [hp1]
              have : (U ((L.map (·.x)).map gN) 6 1).count 1 = 0 := List.count_eq_zero.2 fun hm => (hC.2 1 hm).1 rfl
              simp only [more, this]
            have hV3 := hV2.link hp
            have hl1 : ((more (fun _ => 0) (U ((L.map (·.x)).map gN) 6 1) p.num + 1 : Nat) : Int) = 1 := by rw [hl0]; rfl
            rw [hl1] at hV3
            have hn2 := hV2.n p hp
            have cn2 := cellAt_known hn2
            have cj2 := cellAt_known hV2.o
            repeat' (first | (simp -dsimp only [↓reduceIte, go_sem, t4, cj2]) | (refine arr_intro fun _ => ?_) | (refine later_intro ⟨keeps_nil, ?_⟩) | (refine later_intro ⟨keeps_refl, ?_⟩) | (with_reducible refine keeps_go ?_ ?_; focus (first | (simp [keeps_cons, keeps_none, objs_app, objs_app0]; done) | (simp only [keeps_cons, keeps_none, objs_app0, objs_app, and_true]; first | rfl | exact ⟨rfl, rfl⟩ | exact ⟨rfl, rfl, rfl⟩))) | (with_reducible refine (And.intro (a := keeps _ _ _) ?_ ?_); focus (first | (simp [keeps_cons, keeps_none, objs_app, objs_app0]; done) | (simp only [keeps_cons, keeps_none, objs_app0, objs_app, and_true]; first | rfl | exact ⟨rfl, rfl⟩ | exact ⟨rfl, rfl, rfl⟩))) | (refine both_ways ?_ ?_) | (rw [wrap_i64 (by omega) (by omega)]) | (refine guardV_split (fun h => ?_) (fun h => ?_) <;> (try rw [h]) <;> (try simp at h) <;> (try (exfalso; omega))) | ((refine lookV hV2 (fun n hn e => ?_) (fun hno => absurd hp1 (hno p hp)))))
            obtain rfl : p = n := mem_inj hV2.nn hp hn (by rw [hp1, e])
            repeat' (first | (simp -dsimp only [↓reduceIte, go_sem, t4, cj2, cn2, hn2]) | (refine arr_intro fun _ => ?_) | (refine later_intro ⟨keeps_nil, ?_⟩) | (refine later_intro ⟨keeps_refl, ?_⟩) | (with_reducible refine keeps_go ?_ ?_; focus (first | (simp [keeps_cons, keeps_none, objs_app, objs_app0]; done) | (simp only [keeps_cons, keeps_none, objs_app0, objs_app, and_true]; first | rfl | exact ⟨rfl, rfl⟩ | exact ⟨rfl, rfl, rfl⟩))) | (with_reducible refine (And.intro (a := keeps _ _ _) ?_ ?_); focus (first | (simp [keeps_cons, keeps_none, objs_app, objs_app0]; done) | (simp only [keeps_cons, keeps_none, objs_app0, objs_app, and_true]; first | rfl | exact ⟨rfl, rfl⟩ | exact ⟨rfl, rfl, rfl⟩))) | (refine both_ways ?_ ?_) | (rw [wrap_i64 (by omega) (by omega)]) | (refine guardV_split (fun h => ?_) (fun h => ?_) <;> (try rw [h]) <;> (try simp at h) <;> (try (exfalso; omega))))
            generalize s2.set p.kn _ = s3 at hV3 ⊢
            have hlk : ∀ a, more (more (fun _ => 0) (U ((L.map (·.x)).map gN) 6 1)) [p.num] a = (U ((L.map (·.x)).map gN) 6 1).count a + (if a = 1 then 1 else 0) := fun a => by
              simp only [more, hp1, List.count_singleton]
              by_cases h1 : a = 1
              · subst h1; simp
              · have : ((1 : Int) == a) = false := by simp; exact fun e => h1 e.symm
                simp [this, h1]
            generalize more (more (fun _ => 0) (U ((L.map (·.x)).map gN) 6 1)) [p.num] = lk3 at hV3 hlk
            have cj3 := cellAt_known hV3.o
            obtain ⟨E, ck, m1, m2, m3, m4⟩ := hV3.m
            repeat' (first | (simp -dsimp only [↓reduceIte, go_sem, t4, cj3]) | (refine arr_intro fun _ => ?_) | (refine later_intro ⟨keeps_nil, ?_⟩) | (refine later_intro ⟨keeps_refl, ?_⟩) | (with_reducible refine keeps_go ?_ ?_; focus (first | (simp [keeps_cons, keeps_none, objs_app, objs_app0]; done) | (simp only [keeps_cons, keeps_none, objs_app0, objs_app, and_true]; first | rfl | exact ⟨rfl, rfl⟩ | exact ⟨rfl, rfl, rfl⟩))) | (with_reducible refine (And.intro (a := keeps _ _ _) ?_ ?_); focus (first | (simp [keeps_cons, keeps_none, objs_app, objs_app0]; done) | (simp only [keeps_cons, keeps_none, objs_app0, objs_app, and_true]; first | rfl | exact ⟨rfl, rfl⟩ | exact ⟨rfl, rfl, rfl⟩))) | (refine both_ways ?_ ?_) | (rw [wrap_i64 (by omega) (by omega)]) | (refine guardV_split (fun h => ?_) (fun h => ?_) <;> (try rw [h]) <;> (try simp at h) <;> (try (exfalso; omega))))
            refine ⟨⟨3, 176, Try.underlying172⟩, ?_⟩
            simp only [m1]
            intro l b
            repeat' (first | (simp -dsimp only [↓reduceIte, go_sem, t4]) | (refine arr_intro fun _ => ?_) | (refine later_intro ⟨keeps_nil, ?_⟩) | (refine later_intro ⟨keeps_refl, ?_⟩) | (with_reducible refine keeps_go ?_ ?_; focus (first | (simp [keeps_cons, keeps_none, objs_app, objs_app0]; done) | (simp only [keeps_cons, keeps_none, objs_app0, objs_app, and_true]; first | rfl | exact ⟨rfl, rfl⟩ | exact ⟨rfl, rfl, rfl⟩))) | (with_reducible refine (And.intro (a := keeps _ _ _) ?_ ?_); focus (first | (simp [keeps_cons, keeps_none, objs_app, objs_app0]; done) | (simp only [keeps_cons, keeps_none, objs_app0, objs_app, and_true]; first | rfl | exact ⟨rfl, rfl⟩ | exact ⟨rfl, rfl, rfl⟩))) | (refine both_ways ?_ ?_) | (rw [wrap_i64 (by omega) (by omega)]) | (refine guardV_split (fun h => ?_) (fun h => ?_) <;> (try rw [h]) <;> (try simp at h) <;> (try (exfalso; omega))))
            have hbx := hV3.box (iterO l b mi ck #[] ck)
            have hl4 := hV3.lts
            have hle : s.objs.length ≤ s3.objs.length := by obtain ⟨O, T, rfl⟩ := hV3.x; simp
            have hmx : (s3.app [iterO l b mi ck #[] ck]).objs[mi]? = some (.map (E.map entI) ck) := ext_knownV (Ext.app _ _) m1
            generalize hk0 : s3.objs.length = k0 at hbx hl4 hle ⊢
            generalize s3.app [iterO l b mi ck #[] ck] = s4 at hbx hmx ⊢
            refine awp_rounds (fun (i : Nat) τ s' => ∃ (D : List (Nat × Int × Nat)) (last : Nat), D.length = i ∧ Seen E D ∧ ck ≤ last ∧ VF s s' j mi Ns lk3 ((k0, iterO l b mi ck (D.map (·.1)).toArray last) :: []) ∧ s'.objs[mi]? = some (.map (E.map entI) ck) ∧ (∀ e ∈ D, 0 < lk3 e.2.1) ∧ τ 4 = .ptr (some (j, [])) ∧ τ 113 = .ptr (some (k0, []))) (fun i => E.length - i) 0 ?_ ?_
            · refine ⟨[], ck, rfl, Seen.nil, Nat.le_refl _, hbx, hmx, by simp, ?_, ?_⟩ <;> (try simp only [go_sem]) <;> (try first | rfl | exact t4)
            · rintro i τ s' ⟨D, last, hDl, hD, hla, hW, hm', hpos, t4, t113⟩
              have hit := (hW.f _ (List.mem_cons_self ..)).1
              dsimp only at hit
              repeat' (first | (simp -dsimp only [↓reduceIte, go_sem, t4, t113]) | (refine arr_intro fun _ => ?_) | (refine later_intro ⟨keeps_nil, ?_⟩) | (refine later_intro ⟨keeps_refl, ?_⟩) | (with_reducible refine keeps_go ?_ ?_; focus (first | (simp [keeps_cons, keeps_none, objs_app, objs_app0]; done) | (simp only [keeps_cons, keeps_none, objs_app0, objs_app, and_true]; first | rfl | exact ⟨rfl, rfl⟩ | exact ⟨rfl, rfl, rfl⟩))) | (with_reducible refine (And.intro (a := keeps _ _ _) ?_ ?_); focus (first | (simp [keeps_cons, keeps_none, objs_app, objs_app0]; done) | (simp only [keeps_cons, keeps_none, objs_app0, objs_app, and_true]; first | rfl | exact ⟨rfl, rfl⟩ | exact ⟨rfl, rfl, rfl⟩))) | (refine both_ways ?_ ?_) | (rw [wrap_i64 (by omega) (by omega)]) | (refine guardV_split (fun h => ?_) (fun h => ?_) <;> (try rw [h]) <;> (try simp at h) <;> (try (exfalso; omega))))
              refine ⟨rfl, k0, l, b, mi, ck, _, last, _, _, rfl, hit, hm', ?_, hla, fun e he hne => ?_, fun hall => ?_⟩
              · intro e he
                obtain ⟨x, hx, rfl⟩ := List.mem_map.1 he
                exact m3 x hx
              · obtain ⟨e, he0, rfl⟩ := List.mem_map.1 he
                have hne' : ¬ e.1 ∈ D.map (·.1) := by simpa [entI, entG] using hne
                have hD' := hD.add he0 hne'
                have hl2 := hD'.len m4
                rw [List.length_append] at hl2
                simp only [List.length_singleton] at hl2
                have hW2 := hW.setF (o' := iterO l b mi ck ((D.map (·.1)).toArray.push (entI e).1) ck) hle (fun y hy => by cases hy)
                have om : (s'.set k0 (iterO l b mi ck ((D.map (·.1)).toArray.push (entI e).1) ck)).objs[mi]? = some (.map (E.map entI) ck) := by rw [objs_setNV (by omega)]; exact hm'
                generalize hs2 : s'.set k0 (iterO l b mi ck ((D.map (·.1)).toArray.push (entI e).1) ck) = s2' at hW2 om
                have oit := (hW2.f _ (List.mem_cons_self ..)).1
                dsimp only at oit
                repeat' (first | (simp -dsimp only [↓reduceIte, go_sem, t4, t113, hs2]) | (refine arr_intro fun _ => ?_) | (refine later_intro ⟨keeps_nil, ?_⟩) | (refine later_intro ⟨keeps_refl, ?_⟩) | (with_reducible refine keeps_go ?_ ?_; focus (first | (simp [keeps_cons, keeps_none, objs_app, objs_app0]; done) | (simp only [keeps_cons, keeps_none, objs_app0, objs_app, and_true]; first | rfl | exact ⟨rfl, rfl⟩ | exact ⟨rfl, rfl, rfl⟩))) | (with_reducible refine (And.intro (a := keeps _ _ _) ?_ ?_); focus (first | (simp [keeps_cons, keeps_none, objs_app, objs_app0]; done) | (simp only [keeps_cons, keeps_none, objs_app0, objs_app, and_true]; first | rfl | exact ⟨rfl, rfl⟩ | exact ⟨rfl, rfl, rfl⟩))) | (refine both_ways ?_ ?_) | (rw [wrap_i64 (by omega) (by omega)]) | (refine guardV_split (fun h => ?_) (fun h => ?_) <;> (try rw [h]) <;> (try simp at h) <;> (try (exfalso; omega))))
                refine ⟨k0, l, b, mi, ck, (D.map (·.1)).toArray, _, entI e, ck, rfl, oit, om, he, ?_⟩
                have k2 : (entI e).2.2 = .ptr (some (e.2.2, [])) := rfl
                have hmE : e.2 ∈ Ns.map (fun n => (n.num, n.kn)) := by rw [← m2]; exact List.mem_map.2 ⟨e, he0, rfl⟩
                obtain ⟨n, hn2, en⟩ := List.mem_map.1 hmE
                have ek : e.2.2 = n.kn := by rw [← en]
                have en1 : e.2.1 = n.num := by rw [← en]
                rw [ek] at k2
                have cn3 := cellAt_known (hW2.n n hn2)
                by_cases hzz : lk3 n.num = 0
                · have hzi : ((lk3 n.num : Nat) : Int) = 0 := by omega
                  repeat' (first | (simp -dsimp only [↓reduceIte, go_sem, t4, t113, k2, cn3, hzi]) | (refine arr_intro fun _ => ?_) | (refine later_intro ⟨keeps_nil, ?_⟩) | (refine later_intro ⟨keeps_refl, ?_⟩) | (with_reducible refine keeps_go ?_ ?_; focus (first | (simp [keeps_cons, keeps_none, objs_app, objs_app0]; done) | (simp only [keeps_cons, keeps_none, objs_app0, objs_app, and_true]; first | rfl | exact ⟨rfl, rfl⟩ | exact ⟨rfl, rfl, rfl⟩))) | (with_reducible refine (And.intro (a := keeps _ _ _) ?_ ?_); focus (first | (simp [keeps_cons, keeps_none, objs_app, objs_app0]; done) | (simp only [keeps_cons, keeps_none, objs_app0, objs_app, and_true]; first | rfl | exact ⟨rfl, rfl⟩ | exact ⟨rfl, rfl, rfl⟩))) | (refine both_ways ?_ ?_) | (rw [wrap_i64 (by omega) (by omega)]) | (refine guardV_split (fun h => ?_) (fun h => ?_) <;> (try rw [h]) <;> (try simp at h) <;> (try (exfalso; omega))))
                  refine hF (fun ho => ?_) _ hW2.x
                  obtain ⟨x, hx, e2⟩ := made_mem hM hn2
                  have hxn : n.num = x.num := congrArg (·.1) e2
                  rw [hlk, hxn] at hzz
                  by_cases h1 : x.num = 1
                  · rw [if_pos h1] at hzz; omega
                  · have := ho.u x hx h1; omega
                · have hzi : ¬ ((lk3 n.num : Nat) : Int) = 0 := by omega
                  repeat' (first | (simp -dsimp only [↓reduceIte, go_sem, t4, t113, k2, cn3, hzi]) | (refine arr_intro fun _ => ?_) | (refine later_intro ⟨keeps_nil, ?_⟩) | (refine later_intro ⟨keeps_refl, ?_⟩) | (with_reducible refine keeps_go ?_ ?_; focus (first | (simp [keeps_cons, keeps_none, objs_app, objs_app0]; done) | (simp only [keeps_cons, keeps_none, objs_app0, objs_app, and_true]; first | rfl | exact ⟨rfl, rfl⟩ | exact ⟨rfl, rfl, rfl⟩))) | (with_reducible refine (And.intro (a := keeps _ _ _) ?_ ?_); focus (first | (simp [keeps_cons, keeps_none, objs_app, objs_app0]; done) | (simp only [keeps_cons, keeps_none, objs_app0, objs_app, and_true]; first | rfl | exact ⟨rfl, rfl⟩ | exact ⟨rfl, rfl, rfl⟩))) | (refine both_ways ?_ ?_) | (rw [wrap_i64 (by omega) (by omega)]) | (refine guardV_split (fun h => ?_) (fun h => ?_) <;> (try rw [h]) <;> (try simp at h) <;> (try (exfalso; omega))))
                  have hita : (D.map (·.1)).toArray.push (entI e).1 = ((D ++ [e]).map (·.1)).toArray := by simp [entI, entG]
                  rw [hita] at hW2
                  refine later_intro ⟨i + 1, by omega, D ++ [e], ck, by simp [hDl], hD', Nat.le_refl _, hW2, om, ?_, ?_, ?_⟩ <;> (try simp only [go_sem, t4, t113]) <;> (try rfl)
                  intro x hx
                  rcases List.mem_append.1 hx with hx | hx
                  · exact hpos x hx
                  · simp at hx; subst hx; rw [en1]; omega
              · have hperm := hD.all m4 fun e he => by
                  have := hall (entI e) (List.mem_map_of_mem he)
                  simpa [entI, entG] using this
                have hU : ∀ x ∈ L.map (·.x), x.num ≠ 1 → 0 < (U ((L.map (·.x)).map gN) 6 1).count x.num := fun x hx h1 => by
                  obtain ⟨n, hn, e2⟩ := made_mem2 hM hx
                  have hxn : n.num = x.num := congrArg (·.1) e2
                  have : (n.num, n.kn) ∈ E.map (·.2) := by rw [m2]; exact List.mem_map.2 ⟨n, hn, rfl⟩
                  obtain ⟨e, he, hee⟩ := List.mem_map.1 this
                  have h3 := hpos e (hperm.mem_iff.2 he)
                  rw [show e.2.1 = n.num by rw [hee], hlk, hxn, if_neg h1] at h3
                  omega
                have hNl : Ns.length ≤ 100 := by
                  have := congrArg List.length hM
                  simp at this; omega
                have hdl : ∀ n ∈ Ns, n.data.length ≤ 1000 := fun n hn => by
                  obtain ⟨x, hx, e2⟩ := made_mem hM hn
                  have hxn : n.data = x.data := congrArg (·.2.2.1) e2
                  obtain ⟨y, hy, rfl⟩ := List.mem_map.1 hx
                  rw [hxn]
                  rcases (hP y hy).k with ⟨_, _, h5⟩ | ⟨_, h5⟩
                  · omega
                  · rw [h5]; simp
                have hub := fun {K} a => used_c hW.less hNl hdl (K := K) a
                rw [made_b hM] at hub
                repeat' (first | (simp -dsimp only [↓reduceIte, go_sem, t4, t113]) | (refine arr_intro fun _ => ?_) | (refine later_intro ⟨keeps_nil, ?_⟩) | (refine later_intro ⟨keeps_refl, ?_⟩) | (with_reducible refine keeps_go ?_ ?_; focus (first | (simp [keeps_cons, keeps_none, objs_app, objs_app0]; done) | (simp only [keeps_cons, keeps_none, objs_app0, objs_app, and_true]; first | rfl | exact ⟨rfl, rfl⟩ | exact ⟨rfl, rfl, rfl⟩))) | (with_reducible refine (And.intro (a := keeps _ _ _) ?_ ?_); focus (first | (simp [keeps_cons, keeps_none, objs_app, objs_app0]; done) | (simp only [keeps_cons, keeps_none, objs_app0, objs_app, and_true]; first | rfl | exact ⟨rfl, rfl⟩ | exact ⟨rfl, rfl, rfl⟩))) | (refine both_ways ?_ ?_) | (rw [wrap_i64 (by omega) (by omega)]) | (refine guardV_split (fun h => ?_) (fun h => ?_) <;> (try rw [h]) <;> (try simp at h) <;> (try (exfalso; omega))) | ((refine hub (fun s5 hW5 => ?_))))
                · have hb64 : ((L.map (·.x)).map fun x => blkV x.data.length).sum ≤ 64 := by rw [List.map_map]; omega
                  have hmb := fun {K} a => many_c hW5 hNl (fun n hn => by have := hch n hn; omega) (K := K) a
                  rw [made_c hM] at hmb
                  refine hmb (fun s6 hW6 => ?_)
                  repeat' (first | (simp -dsimp only [↓reduceIte, go_sem, t4]) | (refine arr_intro fun _ => ?_) | (refine later_intro ⟨keeps_nil, ?_⟩) | (refine later_intro ⟨keeps_refl, ?_⟩) | (with_reducible refine keeps_go ?_ ?_; focus (first | (simp [keeps_cons, keeps_none, objs_app, objs_app0]; done) | (simp only [keeps_cons, keeps_none, objs_app0, objs_app, and_true]; first | rfl | exact ⟨rfl, rfl⟩ | exact ⟨rfl, rfl, rfl⟩))) | (with_reducible refine (And.intro (a := keeps _ _ _) ?_ ?_); focus (first | (simp [keeps_cons, keeps_none, objs_app, objs_app0]; done) | (simp only [keeps_cons, keeps_none, objs_app0, objs_app, and_true]; first | rfl | exact ⟨rfl, rfl⟩ | exact ⟨rfl, rfl, rfl⟩))) | (refine both_ways ?_ ?_) | (rw [wrap_i64 (by omega) (by omega)]) | (refine guardV_split (fun h => ?_) (fun h => ?_) <;> (try rw [h]) <;> (try simp at h) <;> (try (exfalso; omega))))
                  · refine hF (fun ho => ?_) _ hW6.x
                    have := ho.n
                    rw [List.map_map] at this; omega
                  · exact hT ⟨⟨y.x, by rw [List.getElem?_map, hy]; rfl, hy1, hy2⟩, hC, hU, hb64, by rw [List.map_map]; omega⟩ _ _ hW6.x
                · refine hF (fun ho => ?_) _ hW5.x
                  have := ho.b
                  rw [List.map_map] at this; omega
          · repeat' (first | (simp -dsimp only [↓reduceIte, go_sem, t4]) | (refine arr_intro fun _ => ?_) | (refine later_intro ⟨keeps_nil, ?_⟩) | (refine later_intro ⟨keeps_refl, ?_⟩) | (with_reducible refine keeps_go ?_ ?_; focus (first | (simp [keeps_cons, keeps_none, objs_app, objs_app0]; done) | (simp only [keeps_cons, keeps_none, objs_app0, objs_app, and_true]; first | rfl | exact ⟨rfl, rfl⟩ | exact ⟨rfl, rfl, rfl⟩))) | (with_reducible refine (And.intro (a := keeps _ _ _) ?_ ?_); focus (first | (simp [keeps_cons, keeps_none, objs_app, objs_app0]; done) | (simp only [keeps_cons, keeps_none, objs_app0, objs_app, and_true]; first | rfl | exact ⟨rfl, rfl⟩ | exact ⟨rfl, rfl, rfl⟩))) | (refine both_ways ?_ ?_) | (rw [wrap_i64 (by omega) (by omega)]) | (refine guardV_split (fun h => ?_) (fun h => ?_) <;> (try rw [h]) <;> (try simp at h) <;> (try (exfalso; omega))))
            exact hF (fun ho => hC ho.c) _ hx2
        · exact absurd (by rw [‹L = []›]; rfl) hz
theorem plain_of_right {y : L21.Leaf} (h : y.Right) (hn : y.names.length ≤ 80) : PlainN (nodeOf y) := by
  obtain ⟨h1, h2, h3⟩ := h
  rcases h3 with ⟨hk, f1, f2, f3, f4, f5, f6⟩ | ⟨hk, d1, d2, d3, d4, d5⟩
  · refine ⟨⟨h1, h2⟩, by simp [nodeOf, f5, f6], .inl ⟨hk, f5, by simp only [nodeOf, List.length_replicate]; omega⟩, fun i s hs => ?_, hn⟩
    simp only [nodeOf, f5] at hs
    simp at hs
  · refine ⟨⟨h1, h2⟩, d5, .inr ⟨hk, ?_⟩, d1, hn⟩
    simp only [nodeOf, d3]; rfl
theorem asc_of_table {l : List L21.Leaf} (h : L21.Table l) : Asc (l.map nodeOf) := by
  intro i x hx y hi hy
  rw [List.getElem?_map] at hx hy
  obtain ⟨a, ha, rfl⟩ := Option.map_eq_some_iff.1 hx
  obtain ⟨b, hb, rfl⟩ := Option.map_eq_some_iff.1 hy
  exact (h i a ha).2 b hi hb
structure Ent where
  path : List (List UInt8)
  node : Int
def ent0 : Ent := ⟨[], 0⟩
def entPs (t0 : Tk) (x : Ent) : List AV := [.slice t0 (x.path.map AV.str), .int .i64 x.node]
theorem entPs_0 {t0 : Tk} {x : Ent} : (entPs t0 x)[0]? = some (.slice t0 (x.path.map AV.str)) := nr rfl
theorem entAt_0 {t0 : Tk} {x : Ent} {v : AV} : partIs Try.prog 94 (entPs t0 x) 0 v = fits Try.prog 43 v := by rw [partIs_of (o := 0) (T := 43) (by kernel_rfl)]; simp [entPs, AV.sizes, AV.size]
theorem entSet_0 {t0 : Tk} {u0 : Tk} {x : Ent} {y : List (List UInt8)} : (entPs t0 x).set 0 (.slice u0 (y.map AV.str)) = entPs u0 { x with path := y } := nr rfl
theorem entPs_1 {t0 : Tk} {x : Ent} : (entPs t0 x)[1]? = some (.int .i64 x.node) := nr rfl
theorem entAt_1 {t0 : Tk} {x : Ent} {v : AV} : partIs Try.prog 94 (entPs t0 x) 1 v = fits Try.prog 3 v := by rw [partIs_of (o := 1) (T := 3) (by kernel_rfl)]; simp [entPs, AV.sizes, AV.size]
theorem entSet_1 {t0 : Tk} {x : Ent} {y : Int} : (entPs t0 x).set 1 (.int .i64 y) = entPs t0 { x with node := y } := nr rfl
theorem sizes_ent {t0 : Tk} {x : Ent} : AV.sizes (entPs t0 x) = 2 := by simp [entPs, AV.sizes, AV.size]
theorem shapes_ent {t0 : Tk} {x : Ent} : AV.shapes (entPs t0 x) = [.leaf, .leaf] := by simp [entPs, AV.shapes, AV.shape]
theorem fits_ent {v : AV} : fits Try.prog 94 v = (v.isAgg = true ∧ v.size = 2) := fits_agg (by kernel_rfl) (by kernel_rfl)
theorem zero_ent : zeroA Try.prog 12 94 = .agg (entPs .full ent0) := by kernel_rfl
theorem zt_ent : ZeroOf Try.prog 94 (.agg (entPs .full ent0)) = True := eq_true ⟨_, _, rfl, rfl, rfl, rfl, rfl⟩
theorem built_ent : Built Try.prog 94 = True := eq_true (by unfold Built; rw [Try.underlying94]; decide +kernel)
structure Bod where
  num : Int
  kind : Int
  data : List UInt8
def bod0 : Bod := ⟨0, 0, []⟩
def bodPs (x : Bod) : List AV := [.int .i64 x.num, .int .i64 x.kind, .str x.data]
theorem bodPs_0 {x : Bod} : (bodPs x)[0]? = some (.int .i64 x.num) := nr rfl
theorem bodAt_0 {x : Bod} {v : AV} : partIs Try.prog 97 (bodPs x) 0 v = fits Try.prog 3 v := by rw [partIs_of (o := 0) (T := 3) (by kernel_rfl)]; simp [bodPs, AV.sizes, AV.size]
theorem bodSet_0 {x : Bod} {y : Int} : (bodPs x).set 0 (.int .i64 y) = bodPs { x with num := y } := nr rfl
theorem bodPs_1 {x : Bod} : (bodPs x)[1]? = some (.int .i64 x.kind) := nr rfl
theorem bodAt_1 {x : Bod} {v : AV} : partIs Try.prog 97 (bodPs x) 1 v = fits Try.prog 3 v := by rw [partIs_of (o := 1) (T := 3) (by kernel_rfl)]; simp [bodPs, AV.sizes, AV.size]
theorem bodSet_1 {x : Bod} {y : Int} : (bodPs x).set 1 (.int .i64 y) = bodPs { x with kind := y } := nr rfl
theorem bodPs_2 {x : Bod} : (bodPs x)[2]? = some (.str x.data) := nr rfl
theorem bodAt_2 {x : Bod} {v : AV} : partIs Try.prog 97 (bodPs x) 2 v = fits Try.prog 9 v := by rw [partIs_of (o := 2) (T := 9) (by kernel_rfl)]; simp [bodPs, AV.sizes, AV.size]
theorem bodSet_2 {x : Bod} {y : List UInt8} : (bodPs x).set 2 (.str y) = bodPs { x with data := y } := nr rfl
theorem sizes_bod {x : Bod} : AV.sizes (bodPs x) = 3 := by simp [bodPs, AV.sizes, AV.size]
theorem shapes_bod {x : Bod} : AV.shapes (bodPs x) = [.leaf, .leaf, .leaf] := by simp [bodPs, AV.shapes, AV.shape]
theorem fits_bod {v : AV} : fits Try.prog 97 v = (v.isAgg = true ∧ v.size = 3) := fits_agg (by kernel_rfl) (by kernel_rfl)
theorem zero_bod : zeroA Try.prog 12 97 = .agg (bodPs bod0) := by kernel_rfl
theorem zt_bod : ZeroOf Try.prog 97 (.agg (bodPs bod0)) = True := eq_true ⟨_, _, rfl, rfl, rfl, rfl, rfl⟩
theorem built_bod : Built Try.prog 97 = True := eq_true (by unfold Built; rw [Try.underlying97]; decide +kernel)
/-ATTR entPs_0 entAt_0 entSet_0 entPs_1 entAt_1 entSet_1 sizes_ent shapes_ent fits_ent zero_ent zt_ent built_ent Try.underlying94 bodPs_0 bodAt_0 bodSet_0 bodPs_1 bodAt_1 bodSet_1 bodPs_2 bodAt_2 bodSet_2 sizes_bod shapes_bod fits_bod zero_bod zt_bod built_bod Try.underlying97 -/

structure TEnt where
  x : Ent
  t : Tk
section
variable {te tb tk : Tk} {E E' : List TEnt} {B B' : List Bod} {v : AV}
end
section
variable {s : AST} {j : Nat} {te tb : Tk} {E : List TEnt} {B : List Bod} {K : AV → AST → Prop}
end
section
variable {σ0 s : AST} {j : Nat} {te tb tk : Tk} {E : List TEnt} {B : List Bod} {K : AV → AST → Prop} {P : List (List UInt8)} {n : Int}
end
theorem append_str1 {a : List (List UInt8)} {y : List UInt8} {tk tk2 : Tk} {σ : AST} {K : AV → AST → Prop} (hca : canApp σ tk a.length 1) (hl : a.length ≤ 9000) (hK : K (.slice (growT σ tk) ((a ++ [y]).map AV.str)) (growS σ tk (a.length + 1) 1)) :
    appendW Try.prog ⟨[43, 43]⟩ (.slice tk (a.map AV.str)) (.slice tk2 [.str y]) σ K := by
  refine append_slice L21.E29 rfl (by rw [List.length_map]; exact hca) (by intro v hv; simp at hv; subst hv; rfl) (by intro v hv; obtain ⟨x, _, rfl⟩ := List.mem_map.1 hv; rfl) (by simp; omega) (by simp [maxL]; omega) ?_
  simpa using hK
attribute [local go_sem] L21.zt46 L21.zero46 L21.agg_leaf L21.known_leaf L21.fits46 L21.p46_0 L21.p46_1 L21.p46_2 L21.p46_3 Try.underlying84 Try.underlying22
structure Tch where
  node : Int
  from_ : Int
  end_ : Int
def tch0 : Tch := ⟨0, 0, 0⟩
def tchPs (x : Tch) : List AV := [.int .i64 x.node, .int .i64 x.from_, .int .i64 x.end_]
abbrev tchV (x : Tch) : AV := .agg (tchPs x)
theorem tchPs_0 {x : Tch} : (tchPs x)[0]? = some (.int .i64 x.node) := nr rfl
theorem tchAt_0 {x : Tch} {v : AV} : partIs Try.prog 24 (tchPs x) 0 v = fits Try.prog 3 v := by rw [partIs_of (o := 0) (T := 3) (by kernel_rfl)]; simp [tchPs, AV.sizes, AV.size]
theorem tchPs_1 {x : Tch} : (tchPs x)[1]? = some (.int .i64 x.from_) := nr rfl
theorem tchAt_1 {x : Tch} {v : AV} : partIs Try.prog 24 (tchPs x) 1 v = fits Try.prog 3 v := by rw [partIs_of (o := 1) (T := 3) (by kernel_rfl)]; simp [tchPs, AV.sizes, AV.size]
theorem tchPs_2 {x : Tch} : (tchPs x)[2]? = some (.int .i64 x.end_) := nr rfl
theorem tchAt_2 {x : Tch} {v : AV} : partIs Try.prog 24 (tchPs x) 2 v = fits Try.prog 3 v := by rw [partIs_of (o := 2) (T := 3) (by kernel_rfl)]; simp [tchPs, AV.sizes, AV.size]
theorem sizes_tch {x : Tch} : AV.sizes (tchPs x) = 3 := by simp [tchPs, AV.sizes, AV.size]
theorem fits_tch {v : AV} : fits Try.prog 24 v = (v.isAgg = true ∧ v.size = 3) := fits_agg (by kernel_rfl) (by kernel_rfl)
theorem zero_tch : zeroA Try.prog 12 24 = .agg (tchPs tch0) := by kernel_rfl
theorem zt_tch : ZeroOf Try.prog 24 (.agg (tchPs tch0)) = True := eq_true ⟨_, _, rfl, rfl, rfl, rfl, rfl⟩
theorem built_tch : Built Try.prog 24 = True := eq_true (by unfold Built; rw [Try.underlying24]; decide +kernel)
attribute [local go_sem] tchPs_0 tchAt_0 tchPs_1 tchAt_1 tchPs_2 tchAt_2 Try.underlying24
abbrev Leaf := L21.Leaf
def FewL (l : List Leaf) : Prop := l.length ≤ 40 ∧ ∀ x ∈ l, x.blocks.length ≤ 40 ∧ x.names.length ≤ 80 ∧ x.nodes.length ≤ 80
noncomputable def byt (l : List Leaf) : List UInt8 := l.flatMap L21.leafG
def TabOk (l : List Leaf) : Prop := L21.Table l ∧ (byt l).length ≤ 4096 ∧ VolOk (l.map nodeOf)
theorem putG_val {l : List Leaf} : (L21.putG l).2 = 0 ∧ (L21.putG l).1 = byt l ∧ L21.Table l ∧ (byt l).length ≤ 4096 ∨ (L21.putG l).2 ≠ 0 ∧ ¬ (L21.Table l ∧ (byt l).length ≤ 4096) := by
  unfold L21.putG
  by_cases h : L21.Table l
  · rw [if_pos h]
    by_cases h2 : 4096 < (l.flatMap L21.leafG).length
    · rw [if_pos h2]; exact .inr ⟨by decide, fun ⟨_, q⟩ => by unfold byt at q; omega⟩
    · rw [if_neg h2]; exact .inl ⟨rfl, rfl, h, by unfold byt; omega⟩
  · rw [if_neg h]; exact .inr ⟨by decide, fun q => h q.1⟩
theorem nodes_x {l : List TL} {L : List TNd} (h : NodesOf l L) : L.map (·.x) = (l.map (·.x)).map nodeOf := by
  unfold NodesOf at h; rw [h, List.map_map]; rfl
section
variable {σ : AST} {K : AV → AST → Prop}
theorem table_c31 {l : List TL} {tk : Tk} (hf : FewL (l.map (·.x)))
    (hT : TabOk (l.map (·.x)) → K (.tuple [.int .i64 (byt (l.map (·.x))).length, .bool true]) σ) (hF : ¬ TabOk (l.map (·.x)) → ∀ n, K (.tuple [.int .i64 n, .bool false]) σ) : TCalls Try.prog 36 [.slice tk (l.map L21.leafV)] σ K := by
  refine TCalls.drop ?_
  obtain ⟨hl, hx⟩ := hf
  rw [List.length_map] at hl
  have hx' : ∀ y ∈ l, y.x.names.length ≤ 5000 ∧ y.x.nodes.length ≤ 5000 := fun y hy => by have := hx y.x (List.mem_map.2 ⟨y, hy, rfl⟩); omega
  rcases putG_val (l := l.map (·.x)) with ⟨h1, h2, h3, h4⟩ | ⟨h1, h2⟩
  · refine tcalls_walk Try.f36 _ [.tmp 2, .tmp 3] Try.func36 rfl rfl rfl mixed (Nat.le_of_ble_eq_true rfl) rfl fun hlen => ?_
    repeat' (first | (simp -dsimp only [↓reduceIte, go_sem, h1, h2]) | (refine arr_intro fun _ => ?_) | (refine later_intro ⟨keeps_nil, ?_⟩) | (refine later_intro ⟨keeps_refl, ?_⟩) | (with_reducible refine keeps_go ?_ ?_; focus (first | (simp [keeps_cons, keeps_none, objs_app, objs_app0]; done) | (simp only [keeps_cons, keeps_none, objs_app0, objs_app, and_true]; first | rfl | exact ⟨rfl, rfl⟩ | exact ⟨rfl, rfl, rfl⟩))) | (with_reducible refine (And.intro (a := keeps _ _ _) ?_ ?_); focus (first | (simp [keeps_cons, keeps_none, objs_app, objs_app0]; done) | (simp only [keeps_cons, keeps_none, objs_app0, objs_app, and_true]; first | rfl | exact ⟨rfl, rfl⟩ | exact ⟨rfl, rfl, rfl⟩))) | (refine both_ways ?_ ?_) | (rw [wrap_i64 (by omega) (by omega)]) | (refine guardV_split (fun h => ?_) (fun h => ?_) <;> (try rw [h]) <;> (try simp at h) <;> (try (exfalso; omega))) | (refine L21.put_c ?_) | (refine inodes_c (by omega) hx' (fun s' t L hN hE => ?_)))
    have hNx := nodes_x hN
    have hPn : ∀ y ∈ L, PlainN y.x := fun y hy => by
      have : y.x ∈ (l.map (·.x)).map nodeOf := by rw [← hNx]; exact List.mem_map.2 ⟨y, hy, rfl⟩
      obtain ⟨z, hz, e⟩ := List.mem_map.1 this
      obtain ⟨i, hi⟩ := List.mem_iff_getElem?.1 hz
      rw [← e]
      exact plain_of_right (h3 i z hi).1 (hx z hz).2.1
    have hAs : Asc (L.map (·.x)) := by rw [hNx]; exact asc_of_table h3
    have hLl : L.length ≤ 80 := by have := congrArg List.length hNx; simp at this; omega
    have hT' : VolOk (L.map (·.x)) → TabOk (l.map (·.x)) := fun h => ⟨h3, h4, by rw [← hNx]; exact h⟩
    have hF' : ¬ VolOk (L.map (·.x)) → ¬ TabOk (l.map (·.x)) := fun h q => h (by rw [hNx]; exact q.2.2)
    refine of_c hPn hAs hLl (fun ho s2 j hE2 => ?_) (fun ho s2 hE2 => ?_)
    · repeat' (first | (simp -dsimp only [↓reduceIte, go_sem]) | (refine arr_intro fun _ => ?_) | (refine later_intro ⟨keeps_nil, ?_⟩) | (refine later_intro ⟨keeps_refl, ?_⟩) | (with_reducible refine keeps_go ?_ ?_; focus (first | (simp [keeps_cons, keeps_none, objs_app, objs_app0]; done) | (simp only [keeps_cons, keeps_none, objs_app0, objs_app, and_true]; first | rfl | exact ⟨rfl, rfl⟩ | exact ⟨rfl, rfl, rfl⟩))) | (with_reducible refine (And.intro (a := keeps _ _ _) ?_ ?_); focus (first | (simp [keeps_cons, keeps_none, objs_app, objs_app0]; done) | (simp only [keeps_cons, keeps_none, objs_app0, objs_app, and_true]; first | rfl | exact ⟨rfl, rfl⟩ | exact ⟨rfl, rfl, rfl⟩))) | (refine both_ways ?_ ?_) | (rw [wrap_i64 (by omega) (by omega)]) | (refine guardV_split (fun h => ?_) (fun h => ?_) <;> (try rw [h]) <;> (try simp at h) <;> (try (exfalso; omega))))
      exact ⟨hE.trans hE2, rfl, hT (hT' ho)⟩
    · repeat' (first | (simp -dsimp only [↓reduceIte, go_sem]) | (refine arr_intro fun _ => ?_) | (refine later_intro ⟨keeps_nil, ?_⟩) | (refine later_intro ⟨keeps_refl, ?_⟩) | (with_reducible refine keeps_go ?_ ?_; focus (first | (simp [keeps_cons, keeps_none, objs_app, objs_app0]; done) | (simp only [keeps_cons, keeps_none, objs_app0, objs_app, and_true]; first | rfl | exact ⟨rfl, rfl⟩ | exact ⟨rfl, rfl, rfl⟩))) | (with_reducible refine (And.intro (a := keeps _ _ _) ?_ ?_); focus (first | (simp [keeps_cons, keeps_none, objs_app, objs_app0]; done) | (simp only [keeps_cons, keeps_none, objs_app0, objs_app, and_true]; first | rfl | exact ⟨rfl, rfl⟩ | exact ⟨rfl, rfl, rfl⟩))) | (refine both_ways ?_ ?_) | (rw [wrap_i64 (by omega) (by omega)]) | (refine guardV_split (fun h => ?_) (fun h => ?_) <;> (try rw [h]) <;> (try simp at h) <;> (try (exfalso; omega))))
      exact ⟨hE.trans hE2, rfl, hF (hF' ho) _⟩
  · refine tcalls_walk Try.f36 _ [.tmp 2, .tmp 3] Try.func36 rfl rfl rfl mixed (Nat.le_of_ble_eq_true rfl) rfl fun hlen => ?_
    have hb : ((L21.putG (l.map (·.x))).2 != 0) = true := by simpa using h1
    repeat' (first | (simp -dsimp only [↓reduceIte, go_sem, h1, hb]) | (refine arr_intro fun _ => ?_) | (refine later_intro ⟨keeps_nil, ?_⟩) | (refine later_intro ⟨keeps_refl, ?_⟩) | (with_reducible refine keeps_go ?_ ?_; focus (first | (simp [keeps_cons, keeps_none, objs_app, objs_app0]; done) | (simp only [keeps_cons, keeps_none, objs_app0, objs_app, and_true]; first | rfl | exact ⟨rfl, rfl⟩ | exact ⟨rfl, rfl, rfl⟩))) | (with_reducible refine (And.intro (a := keeps _ _ _) ?_ ?_); focus (first | (simp [keeps_cons, keeps_none, objs_app, objs_app0]; done) | (simp only [keeps_cons, keeps_none, objs_app0, objs_app, and_true]; first | rfl | exact ⟨rfl, rfl⟩ | exact ⟨rfl, rfl, rfl⟩))) | (refine both_ways ?_ ?_) | (rw [wrap_i64 (by omega) (by omega)]) | (refine guardV_split (fun h => ?_) (fun h => ?_) <;> (try rw [h]) <;> (try simp at h) <;> (try (exfalso; omega))) | (refine L21.put_c ?_))
    exact ⟨Ext.refl _, rfl, hF (fun q => h2 ⟨q.1, q.2.1⟩) _⟩
theorem leafS_G {l : List Leaf} (hT : L21.Table l) (hf : FewL l) : l.flatMap L21.leafS = byt l := by
  unfold byt
  rw [List.flatMap, List.flatMap]
  congr 1
  refine List.map_congr_left fun x hx => ?_
  obtain ⟨i, hi⟩ := List.mem_iff_getElem?.1 hx
  have h1 := hf.2 x hx
  have h2 := ((hT i x hi).1).ints.2.2.2
  have a1 : L21.numsB x.blocks = laidAll numS x.blocks := by unfold L21.numsB; rw [if_neg (by omega)]
  have a2 : L21.numsB x.nodes = laidAll numS x.nodes := by unfold L21.numsB; rw [if_neg (by omega)]
  have a3 : L21.textsB x.names = laidAll textS x.names := by
    unfold L21.textsB; rw [if_neg]
    rintro (h | ⟨s, hs, h⟩)
    · omega
    · have := h2 s hs; omega
  rw [L21.leafS, L21.leafG, a1, a2, a3]
def longI (x : Leaf) (i : Int) : Int := min 32 (x.size - 32 * i)
theorem long_c {y : TL} {i : Nat} (hs : 0 ≤ y.x.size ∧ y.x.size ≤ 512) (hi : i ≤ 1000) (hK : K (.int .i64 (longI y.x i)) σ) : TCalls Try.prog 38 [L21.leafV y, .int .i64 i] σ K := by
  refine TCalls.drop ?_
  have w1 : IntKind.i64.wrap ((i : Int) * 32) = 32 * (i : Int) := by rw [wrap_i64 (by omega) (by omega)]; omega
  have w2 : IntKind.i64.wrap (y.x.size - 32 * (i : Int)) = y.x.size - 32 * (i : Int) := wrap_i64 (by omega) (by omega)
  refine tcalls_walk Try.f38 _ [.tmp 4] Try.func38 rfl rfl rfl mixed (Nat.le_of_ble_eq_true rfl) rfl fun hlen => ?_
  repeat' (first | (simp -dsimp only [↓reduceIte, go_sem, L21.leafV, w1, w2]) | (refine arr_intro fun _ => ?_) | (refine later_intro ⟨keeps_nil, ?_⟩) | (refine later_intro ⟨keeps_refl, ?_⟩) | (with_reducible refine keeps_go ?_ ?_; focus (first | (simp [keeps_cons, keeps_none, objs_app, objs_app0]; done) | (simp only [keeps_cons, keeps_none, objs_app0, objs_app, and_true]; first | rfl | exact ⟨rfl, rfl⟩ | exact ⟨rfl, rfl, rfl⟩))) | (with_reducible refine (And.intro (a := keeps _ _ _) ?_ ?_); focus (first | (simp [keeps_cons, keeps_none, objs_app, objs_app0]; done) | (simp only [keeps_cons, keeps_none, objs_app0, objs_app, and_true]; first | rfl | exact ⟨rfl, rfl⟩ | exact ⟨rfl, rfl, rfl⟩))) | (refine both_ways ?_ ?_) | (rw [wrap_i64 (by omega) (by omega)]) | (refine guardV_split (fun h => ?_) (fun h => ?_) <;> (try rw [h]) <;> (try simp at h) <;> (try (exfalso; omega))))
  exact ⟨Ext.app _ _, rfl, hK⟩
def Touches (x : Leaf) (i : Nat) (t : Tch) : Prop := x.num = t.node ∧ 32 * (i : Int) < t.end_ ∧ t.from_ < 32 * i + longI x i
instance {x : Leaf} {i : Nat} {t : Tch} : Decidable (Touches x i t) := by unfold Touches; infer_instance
def Twin (x : Leaf) (i : Nat) (y : Leaf) : Prop := y.num = x.num ∧ y.kind = x.kind ∧ i < y.blocks.length ∧ longI y i = longI x i
instance {x y : Leaf} {i : Nat} : Decidable (Twin x i y) := by unfold Twin; infer_instance
def fromO (old : List Leaf) (x : Leaf) (i : Nat) : Int := match old.find? (fun y => decide (Twin x i y)) with
  | some y => y.blocks.getD i 0
  | none => -1
theorem fromO_at {x : Leaf} {i : Nat} : ∀ {old : List Leaf} {q : Nat} {w : Leaf}, old[q]? = some w → Twin x i w → (∀ m < q, ∀ v, old[m]? = some v → ¬ Twin x i v) → fromO old x i = w.blocks.getD i 0
  | [], q, w, h, _, _ => by simp at h
  | z :: old, 0, w, h, ht, _ => by
    simp at h; subst h
    unfold fromO
    rw [List.find?_cons, decide_eq_true ht]
  | z :: old, q + 1, w, h, ht, hn => by
    have hz := hn 0 (by omega) z rfl
    have ih := fromO_at (old := old) (q := q) (w := w) (by simpa using h) ht fun m hm v hv => hn (m + 1) (by omega) v (by simpa using hv)
    unfold fromO at ih ⊢
    rw [List.find?_cons, decide_eq_false hz]
    exact ih
def hadP (old : List Leaf) (x : Leaf) (i : Nat) (t : Tch) : Int := if Touches x i t then -1 else fromO old x i
def Sized (x : Leaf) : Prop := 0 ≤ x.size ∧ x.size ≤ 512
theorem longI_le {x : Leaf} {i : Nat} (h : Sized x) (hi : i ≤ 1000) : -40000 ≤ longI x i ∧ longI x i ≤ 32 := by
  obtain ⟨h1, h2⟩ := h
  unfold longI; omega
theorem had_c {old : List TL} {tk : Tk} {y : TL} {i : Nat} {t : Tch} (ho : ∀ z ∈ old, Sized z.x) (hs : Sized y.x) (hi : i ≤ 1000) (hl : old.length ≤ 1000)
    (hK : K (.int .i64 (hadP (old.map (·.x)) y.x i t)) σ) : TCalls Try.prog 37 [.slice tk (old.map L21.leafV), L21.leafV y, .int .i64 i, tchV t] σ K := by
  refine TCalls.drop ?_
  have hlg := longI_le hs hi
  have w1 : IntKind.i64.wrap ((i : Int) * 32) = 32 * (i : Int) := by rw [wrap_i64 (by omega) (by omega)]; omega
  have w2 : IntKind.i64.wrap (32 * (i : Int) + longI y.x i) = 32 * (i : Int) + longI y.x i := wrap_i64 (by omega) (by omega)
  have fin : ∀ (s' : AST) (v : Int), Ext σ s' → hadP (old.map (·.x)) y.x i t = v → Ext σ s' ∧ (AV.int .i64 v).noRef = true ∧ K (AV.int .i64 v).strip σ := fun s' v hx e => by subst e; exact ⟨hx, rfl, hK⟩
  refine tcalls_walk Try.f37 _ [.tmp 8] Try.func37 rfl rfl rfl mixed (Nat.le_of_ble_eq_true rfl) rfl fun hlen => ?_
  have g0 : ∀ p, cellAt (σ.app [.cells (L21.leafV y), .cells (tchV t)]) σ.objs.length p = (L21.leafV y).at p := cellAt_known objs_app0
  have g1 : ∀ p, cellAt (σ.app [.cells (L21.leafV y), .cells (tchV t)]) (σ.objs.length + 1) p = (tchV t).at p := cellAt_known (by simp [AST.app])
  by_cases ht : Touches y.x i t
  · have e : hadP (old.map (·.x)) y.x i t = -1 := by unfold hadP; rw [if_pos ht]
    obtain ⟨t1, t2, t3⟩ := ht
    have t1 : (y.x.num == t.node) = true := by simpa using t1
    repeat' (first | (simp -dsimp only [↓reduceIte, go_sem, w1, w2, t1, t2, t3, g0, g1, L21.leafV]) | (refine arr_intro fun _ => ?_) | (refine later_intro ⟨keeps_nil, ?_⟩) | (refine later_intro ⟨keeps_refl, ?_⟩) | (with_reducible refine keeps_go ?_ ?_; focus (first | (simp [keeps_cons, keeps_none, objs_app, objs_app0]; done) | (simp only [keeps_cons, keeps_none, objs_app0, objs_app, and_true]; first | rfl | exact ⟨rfl, rfl⟩ | exact ⟨rfl, rfl, rfl⟩))) | (with_reducible refine (And.intro (a := keeps _ _ _) ?_ ?_); focus (first | (simp [keeps_cons, keeps_none, objs_app, objs_app0]; done) | (simp only [keeps_cons, keeps_none, objs_app0, objs_app, and_true]; first | rfl | exact ⟨rfl, rfl⟩ | exact ⟨rfl, rfl, rfl⟩))) | (refine both_ways ?_ ?_) | (rw [wrap_i64 (by omega) (by omega)]) | (refine guardV_split (fun h => ?_) (fun h => ?_) <;> (try rw [h]) <;> (try simp at h) <;> (try (exfalso; omega))) | (with_reducible refine awp_drawS (id := 2) [0, 1, 2, 3, 4, 5, 6, 7, 8, 9, 10, 11, 12, 13, 14, 15, 16, 17, 18, 19, 20] (by kernel_rfl) ?_) | (refine long_c hs hi ?_))
    exact fin _ _ (Ext.app _ _) e
  · have e0 : hadP (old.map (·.x)) y.x i t = fromO (old.map (·.x)) y.x i := by unfold hadP; rw [if_neg ht]
    have hcs : ((y.x.num == t.node) = false ∧ True ∧ True) ∨ ((y.x.num == t.node) = true ∧ ¬ 32 * (i : Int) < t.end_ ∧ True) ∨ ((y.x.num == t.node) = true ∧ 32 * (i : Int) < t.end_ ∧ ¬ t.from_ < 32 * i + longI y.x i) := by
      by_cases h1 : y.x.num = t.node
      · by_cases h2 : 32 * (i : Int) < t.end_
        · exact .inr (.inr ⟨by simpa using h1, h2, fun h3 => ht ⟨h1, h2, h3⟩⟩)
        · exact .inr (.inl ⟨by simpa using h1, h2, trivial⟩)
      · exact .inl ⟨by simpa using h1, trivial, trivial⟩
    have hx1 : Ext σ (σ.app [.cells (L21.leafV y), .cells (tchV t)]) := Ext.app _ _
    have k0 : (σ.app [.cells (L21.leafV y), .cells (tchV t)]).objs[σ.objs.length]? = some (.cells (L21.leafV y)) := objs_app0
    rcases hcs with ⟨t1, t2, t3⟩ | ⟨t1, t2, t3⟩ | ⟨t1, t2, t3⟩
    all_goals
      repeat' (first | (simp -dsimp only [↓reduceIte, go_sem, w1, w2, t1, t2, t3, g0, g1, L21.leafV]) | (refine arr_intro fun _ => ?_) | (refine later_intro ⟨keeps_nil, ?_⟩) | (refine later_intro ⟨keeps_refl, ?_⟩) | (with_reducible refine keeps_go ?_ ?_; focus (first | (simp [keeps_cons, keeps_none, objs_app, objs_app0]; done) | (simp only [keeps_cons, keeps_none, objs_app0, objs_app, and_true]; first | rfl | exact ⟨rfl, rfl⟩ | exact ⟨rfl, rfl, rfl⟩))) | (with_reducible refine (And.intro (a := keeps _ _ _) ?_ ?_); focus (first | (simp [keeps_cons, keeps_none, objs_app, objs_app0]; done) | (simp only [keeps_cons, keeps_none, objs_app0, objs_app, and_true]; first | rfl | exact ⟨rfl, rfl⟩ | exact ⟨rfl, rfl, rfl⟩))) | (refine both_ways ?_ ?_) | (rw [wrap_i64 (by omega) (by omega)]) | (refine guardV_split (fun h => ?_) (fun h => ?_) <;> (try rw [h]) <;> (try simp at h) <;> (try (exfalso; omega))) | (with_reducible refine awp_drawS (id := 2) [0, 1, 2, 3, 4, 5, 6, 7, 8, 9, 10, 11, 12, 13, 14, 15, 16, 17, 18, 19, 20] (by kernel_rfl) ?_) | (refine long_c hs hi ?_))
      change awp _ _ _ _ (σ.app [.cells (L21.leafV y), .cells (tchV t)])
      generalize σ.app [.cells (L21.leafV y), .cells (tchV t)] = s1 at hx1 k0 ⊢
      clear g0 g1
      refine awp_rounds (fun (q : Nat) τ s' => q ≤ old.length ∧ Ext s1 s' ∧ (∀ m < q, ∀ w, old[m]? = some w → ¬ Twin y.x i w.x) ∧ τ 2 = .int .i64 i ∧ τ 5 = .ptr (some (σ.objs.length, [])) ∧ τ 35 = .slice tk (old.map L21.leafV) ∧ τ 36 = .int .i64 old.length ∧ τ 37 = .int .i64 q) (fun q => old.length - q) 0 ?_ ?_
      · refine ⟨by omega, Ext.refl _, fun m hm => absurd hm (by omega), ?_, ?_, ?_, ?_, ?_⟩ <;> (try simp only [go_sem]) <;> (try rfl)
      · rintro q τ s' ⟨hq, hx, hno, u2, u5, u35, u36, u37⟩
        have k1 := ext_knownV hx k0
        have hl1 := (List.getElem?_eq_some_iff.1 k1).1
        by_cases hqb : q < old.length
        · have hlt1 : (q : Int) < old.length := by omega
          have hyq : old[q]? = some old[q] := List.getElem?_eq_getElem hqb
          have hsw := ho _ (List.getElem_mem hqb)
          generalize old[q] = w at hyq hsw
          have w3 : IntKind.i64.wrap ((q : Int) + 1) = (q : Int) + 1 := wrap_i64 (by omega) (by omega)
          have a0 : ∀ v p, cellAt (s'.app [.cells v]) σ.objs.length p = (L21.leafV y).at p := fun v => cellAt_known (ext_knownV (Ext.app _ _) k1)
          repeat' (first | (simp -dsimp only [↓reduceIte, go_sem, u2, u5, u35, u36, u37, w3, hlt1, a0, L21.leafV]) | (refine arr_intro fun _ => ?_) | (refine later_intro ⟨keeps_nil, ?_⟩) | (refine later_intro ⟨keeps_refl, ?_⟩) | (with_reducible refine keeps_go ?_ ?_; focus (first | (simp [keeps_cons, keeps_none, objs_app, objs_app0]; done) | (simp only [keeps_cons, keeps_none, objs_app0, objs_app, and_true]; first | rfl | exact ⟨rfl, rfl⟩ | exact ⟨rfl, rfl, rfl⟩))) | (with_reducible refine (And.intro (a := keeps _ _ _) ?_ ?_); focus (first | (simp [keeps_cons, keeps_none, objs_app, objs_app0]; done) | (simp only [keeps_cons, keeps_none, objs_app0, objs_app, and_true]; first | rfl | exact ⟨rfl, rfl⟩ | exact ⟨rfl, rfl, rfl⟩))) | (refine both_ways ?_ ?_) | (rw [wrap_i64 (by omega) (by omega)]) | (refine guardV_split (fun h => ?_) (fun h => ?_) <;> (try rw [h]) <;> (try simp at h) <;> (try (exfalso; omega))) | (refine nth_get hyq ?_) | (with_reducible refine awp_drawS (id := 7) [0, 1, 2, 3, 4, 5, 6, 7, 8, 9, 10, 11, 12, 13, 14, 15, 16, 17, 18, 19, 20, 21, 23, 24, 22, 25, 26, 27] (by kernel_rfl) ?_) | (refine long_c hsw hi ?_) | (refine long_c hs hi ?_))
          case refine_1 =>
            have hTw : Twin y.x i w.x := ⟨‹_›, ‹_›, ‹_›, ‹_›⟩
            have hbk : w.x.blocks[i]? = some w.x.blocks[i] := List.getElem?_eq_getElem hTw.2.2.1
            have hv : w.x.blocks.getD i 0 = w.x.blocks[i] := by rw [List.getD_eq_getElem?_getD, hbk]; rfl
            generalize w.x.blocks[i] = b at hbk hv
            repeat' (first | (simp -dsimp only [↓reduceIte, go_sem]) | (refine arr_intro fun _ => ?_) | (refine later_intro ⟨keeps_nil, ?_⟩) | (refine later_intro ⟨keeps_refl, ?_⟩) | (with_reducible refine keeps_go ?_ ?_; focus (first | (simp [keeps_cons, keeps_none, objs_app, objs_app0]; done) | (simp only [keeps_cons, keeps_none, objs_app0, objs_app, and_true]; first | rfl | exact ⟨rfl, rfl⟩ | exact ⟨rfl, rfl, rfl⟩))) | (with_reducible refine (And.intro (a := keeps _ _ _) ?_ ?_); focus (first | (simp [keeps_cons, keeps_none, objs_app, objs_app0]; done) | (simp only [keeps_cons, keeps_none, objs_app0, objs_app, and_true]; first | rfl | exact ⟨rfl, rfl⟩ | exact ⟨rfl, rfl, rfl⟩))) | (refine both_ways ?_ ?_) | (rw [wrap_i64 (by omega) (by omega)]) | (refine guardV_split (fun h => ?_) (fun h => ?_) <;> (try rw [h]) <;> (try simp at h) <;> (try (exfalso; omega))) | (refine nth_get hbk ?_))
            exact fin _ _ (hx1.trans (hx.trans (Ext.app _ _))) (by rw [e0, fromO_at (by rw [List.getElem?_map, hyq]; rfl) hTw (fun m hm v hv' => by rw [List.getElem?_map, Option.map_eq_some_iff] at hv'; obtain ⟨v', hv', rfl⟩ := hv'; exact hno m hm v' hv'), hv])
          all_goals
            (refine later_intro ⟨q + 1, by omega, ?_⟩; (repeat' with_reducible apply And.intro); all_goals (first | omega | (simp only [go_sem, u2, u5, u35, u36, u37, w3]; done) | rfl | assumption | (simp only [go_sem, u2, u5, u35, u36, u37, w3]; rfl) | skip))
            all_goals first
              | exact hx.trans (Ext.app _ _)
              | (intro m hm v hv
                 by_cases e : m = q
                 · subst e; rw [hyq] at hv; cases hv
                   rintro ⟨z1, z2, z3, z4⟩
                   first | contradiction | omega
                 · exact hno m (by omega) v hv)
        · obtain rfl : q = old.length := by omega
          have hlt1 : ¬ ((old.length : Nat) : Int) < old.length := by omega
          repeat' (first | (simp -dsimp only [↓reduceIte, go_sem, u2, u5, u35, u36, u37, hlt1]) | (refine arr_intro fun _ => ?_) | (refine later_intro ⟨keeps_nil, ?_⟩) | (refine later_intro ⟨keeps_refl, ?_⟩) | (with_reducible refine keeps_go ?_ ?_; focus (first | (simp [keeps_cons, keeps_none, objs_app, objs_app0]; done) | (simp only [keeps_cons, keeps_none, objs_app0, objs_app, and_true]; first | rfl | exact ⟨rfl, rfl⟩ | exact ⟨rfl, rfl, rfl⟩))) | (with_reducible refine (And.intro (a := keeps _ _ _) ?_ ?_); focus (first | (simp [keeps_cons, keeps_none, objs_app, objs_app0]; done) | (simp only [keeps_cons, keeps_none, objs_app0, objs_app, and_true]; first | rfl | exact ⟨rfl, rfl⟩ | exact ⟨rfl, rfl, rfl⟩))) | (refine both_ways ?_ ?_) | (rw [wrap_i64 (by omega) (by omega)]) | (refine guardV_split (fun h => ?_) (fun h => ?_) <;> (try rw [h]) <;> (try simp at h) <;> (try (exfalso; omega))))
          refine fin _ _ (hx1.trans hx) ?_
          rw [e0]
          unfold fromO
          rw [List.find?_eq_none.2]
          intro z hz
          obtain ⟨w, hw, rfl⟩ := List.mem_map.1 hz
          obtain ⟨m, hm⟩ := List.mem_iff_getElem?.1 hw
          simpa using hno m (List.getElem?_eq_some_iff.1 hm).1 w hm
end
end Go.Aff.L10

