import Derived.Test.YtahhjdknfhkgcaaG9
import Derived.Test.YtahhjdknfhkgcaaG8
import Derived.Test.YtahhjdknfhkgcaaG7

set_option linter.unusedSimpArgs false
set_option linter.unusedVariables false

namespace Go.Aff.L21
open Go.Proofs Go.Aff Go.Aff.L01 Classical
set_option maxRecDepth 20000
attribute [local go_sem] push_app app_app length_app cellAt_app cellAt_app0 set_app set_app0 objs_app objs_app0 List.cons_append List.nil_append List.length_cons List.length_nil List.getElem?_cons_zero List.getElem?_cons_succ List.set_cons_zero List.set_cons_succ
attribute [-go_sem] cellAt_new
attribute [local go_sem] Try.underlying5 Try.underlying9 Try.underlying22 fits29 Try.underlying123 fits44 fits46 p46_0 p46_1 p46_2 p46_3 p46_4 p46_5 Try.underlying84
attribute [local go_sem] fits3
attribute [local go_sem ↓] blockQ_exit2
attribute [local go_sem] List.length_map
attribute [-simp] List.length_flatMap
attribute [local go_sem] zt46 zero46 agg_leaf known_leaf

def numsB (l : List Int) : List UInt8 := if 512 < l.length then [] else laidAll numS l
def numsE (l : List Int) : Int := if 512 < l.length then 4 else 0
theorem numbersB_c {l : List Int} (hl : InI l) {tk0 : Tk} {σ : AST} {K : AV → AST → Prop} (hK : K (.tuple [.str (numsB l), .int .i64 (numsE l)]) σ) : TCalls Try.prog 101 [.slice tk0 (l.map (AV.int .i64))] σ K := by
  refine numbers_c hl ?_
  unfold numsB numsE at hK
  split <;> rename_i h <;> simpa [h] using hK
noncomputable def textsB (l : List (List UInt8)) : List UInt8 := if 512 < l.length ∨ ∃ s ∈ l, 16384 < s.length then [] else laidAll textS l
noncomputable def textsE (l : List (List UInt8)) : Int := if 512 < l.length ∨ ∃ s ∈ l, 16384 < s.length then 4 else 0
theorem textsB_c {l : List (List UInt8)} {tk0 : Tk} {σ : AST} {K : AV → AST → Prop} (hK : K (.tuple [.str (textsB l), .int .i64 (textsE l)]) σ) : TCalls Try.prog 102 [.slice tk0 (l.map AV.str)] σ K := by
  refine texts_c ?_
  unfold textsB textsE at hK
  unfold textsR
  split
  · rename_i h; rw [if_pos h, if_pos h] at hK; exact hK
  · rename_i h; rw [if_neg h, if_neg h] at hK; exact hK

noncomputable def leafG (x : Leaf) : List UInt8 := [x.num, x.kind, x.size].flatMap numS ++ numsB x.blocks ++ textsB x.names ++ numsB x.nodes
def leafS (x : Leaf) : List UInt8 := [x.num, x.kind, x.size].flatMap numS ++ laidAll numS x.blocks ++ laidAll textS x.names ++ laidAll numS x.nodes
theorem numsB_len {l : List Int} (hl : InI l) : (numsB l).length ≤ 11300 := by
  unfold numsB
  split
  · simp
  · rename_i h
    have := numsN hl l.length
    rw [List.take_length] at this
    simp only [laidAll, part_all, List.length_append, List.length_cons, List.length_nil]; omega
theorem textsB_len {l : List (List UInt8)} (h : ∀ s ∈ l, s.length ≤ 12) : (textsB l).length ≤ 17000 := by
  unfold textsB
  split
  · simp
  · rename_i h2
    have h3 : ¬ 512 < l.length := fun h => h2 (.inl h)
    have := flat_len (f := textS) (m := 33) (l := l) fun s hs => by
      have := h s hs; have h2 := dg_len20 (n := s.length) (by omega); simp only [textS, List.length_append, List.length_cons, List.length_nil]; omega
    simp only [laidAll, part_all, List.length_append, List.length_cons, List.length_nil]; omega
theorem Leaf.Right.ints {x : Leaf} (h : x.Right) : InI x.blocks ∧ InI x.nodes ∧ InI [x.num, x.kind, x.size] ∧ ∀ s ∈ x.names, s.length ≤ 12 := by
  obtain ⟨h1, h2, h3⟩ := h
  rcases h3 with ⟨hk, hb, h0, h5, hl, hn, hd⟩ | ⟨hk, hn, hd, h0, hb, hl⟩
  · refine ⟨fun n hn => by have := hb n hn; omega, by rw [hd]; intro n hn; simp at hn, ?_, by rw [hn]; intro n hn; simp at hn⟩
    intro n hn; simp at hn; omega
  · refine ⟨by rw [hb]; intro n hn; simp at hn, fun n hn => by have := hd n hn; omega, ?_, ?_⟩
    · intro n hn; simp at hn; omega
    · intro s hs
      obtain ⟨i, hi⟩ := List.mem_iff_getElem?.1 hs
      have := (hn i s hi).1
      simp only [nameB, decide_eq_true_eq] at this
      exact this.2.1
theorem leafG_len {x : Leaf} (h : x.Right) : (leafG x).length ≤ 40000 := by
  obtain ⟨h1, h2, h3, h4⟩ := h.ints
  have := numsN h3 3
  have h5 := numsB_len h1
  have h6 := numsB_len h2
  have h7 := textsB_len h4
  simp only [List.take_succ_cons, List.take_zero, List.length_cons, List.length_nil] at this
  simp only [leafG, List.length_append]; omega
theorem table_len {l : List Leaf} (h : Table l) : l.length ≤ 32 := by
  have key : ∀ (i : Nat) x, l[i]? = some x → (i : Int) + 1 ≤ x.num := by
    intro i
    induction i with
    | zero => intro x hx; have := (h 0 x hx).1.1; omega
    | succ i ih =>
      intro x hx
      obtain ⟨z, hz⟩ := get_lt (l := l) (i := i) (by have := (List.getElem?_eq_some_iff.1 hx).1; omega)
      have h1 := (h (i + 1) x hx).2 z (by omega) (by simpa using hz)
      have := ih z hz; omega
  by_cases h0 : l.length = 0
  · omega
  · obtain ⟨z, hz⟩ := get_lt (l := l) (i := l.length - 1) (by omega)
    have := key _ z hz; have := (h _ z hz).1.2.1; omega
noncomputable def putG (l : List Leaf) : List UInt8 × Int := if Table l then (if 4096 < (l.flatMap leafG).length then ([], 4) else (l.flatMap leafG, 0)) else ([], 2)

theorem put_c {l : List TLeaf} {tk : Tk} {σ : AST} {K : AV → AST → Prop} (hK : K (.tuple [.str (putG (l.map (·.x))).1, .int .i64 (putG (l.map (·.x))).2]) σ) : TCalls Try.prog 74 [.slice tk (l.map leafV)] σ K := by
  refine TCalls.drop ?_
  refine tcalls_walk Try.f74 _ [.tmp 2, .tmp 3] Try.func74 rfl rfl rfl mixed (Nat.le_of_ble_eq_true rfl) rfl fun hlen => ?_
  repeat' (first | (simp -dsimp only [↓reduceIte, go_sem]) | (refine arr_intro fun _ => ?_) | (refine later_intro ⟨keeps_nil, ?_⟩) | (refine later_intro ⟨keeps_refl, ?_⟩) | (with_reducible refine keeps_go ?_ ?_; focus (first | (simp [keeps_cons, keeps_none, objs_app, objs_app0]; done) | (simp only [keeps_cons, keeps_none, objs_app0, objs_app, and_true]; first | rfl | exact ⟨rfl, rfl⟩ | exact ⟨rfl, rfl, rfl⟩))) | (with_reducible refine (And.intro (a := keeps _ _ _) ?_ ?_); focus (first | (simp [keeps_cons, keeps_none, objs_app, objs_app0]; done) | (simp only [keeps_cons, keeps_none, objs_app0, objs_app, and_true]; first | rfl | exact ⟨rfl, rfl⟩ | exact ⟨rfl, rfl, rfl⟩))) | (refine both_ways ?_ ?_) | (rw [wrap_i64 (by omega) (by omega)]) | (refine guardV_split (fun h => ?_) (fun h => ?_) <;> (try rw [h]) <;> (try simp at h) <;> (try (exfalso; omega))) | (refine table_c ?_))
  · rw [putG, if_neg ‹_›] at hK; exact ⟨Ext.refl _, rfl, hK⟩
  · have hT : Table (l.map (·.x)) := ‹_›
    rw [putG, if_pos hT] at hK
    have h32 := table_len hT
    have hR : ∀ y ∈ l, y.x.Right := fun y hy => by
      obtain ⟨i, hi⟩ := List.mem_iff_getElem?.1 hy
      exact (hT i y.x (tableAt hi)).1
    have hN : ∀ i, ((l.take i).flatMap fun y => leafG y.x).length ≤ l.length * 40000 := fun i => flatN fun y hy => leafG_len (hR y hy)
    rw [List.length_map] at h32
    refine awp_rounds (fun (i : Nat) τ s => ∃ tk' n, i ≤ l.length ∧ Gr σ s tk' n ∧ n = ((l.take i).flatMap fun y => leafG y.x).length ∧ τ 4 = .slice tk' (u8s ((l.take i).flatMap fun y => leafG y.x)) ∧ τ 16 = .slice tk (l.map leafV) ∧ τ 17 = .int .i64 l.length ∧ τ 18 = .int .i64 i) (fun i => l.length - i) 0 ?_ ?_
    · refine ⟨.full, 0, by omega, Gr.start, rfl, ?_, ?_, ?_, ?_⟩ <;> (try simp only [go_sem]) <;> rfl
    · rintro i τ s ⟨tk', n, hi, hgr, rfl, t4, t16, t17, t18⟩
      simp -dsimp only [↓reduceIte, go_sem, t4, t16, t17, t18]
      refine boolW_split (fun hb => ?_) (fun hb => ?_)
      · have hb : i < l.length := by simp at hb; omega
        obtain ⟨y, hy⟩ := get_lt hb
        have hyR := hR y (List.mem_of_getElem? hy)
        obtain ⟨hi1, hi2, hi3, hi4⟩ := hyR.ints
        have hNi := hN i
        have hG := leafG_len hyR
        have e : (l.take (i + 1)).flatMap (fun y => leafG y.x) = (l.take i).flatMap (fun y => leafG y.x) ++ leafG y.x := flat_take hy
        repeat' (first | (simp -dsimp only [↓reduceIte, go_sem, t4, t16, t17, t18, leafV]) | (refine arr_intro fun _ => ?_) | (refine later_intro ⟨keeps_nil, ?_⟩) | (refine later_intro ⟨keeps_refl, ?_⟩) | (with_reducible refine keeps_go ?_ ?_; focus (first | (simp [keeps_cons, keeps_none, objs_app, objs_app0]; done) | (simp only [keeps_cons, keeps_none, objs_app0, objs_app, and_true]; first | rfl | exact ⟨rfl, rfl⟩ | exact ⟨rfl, rfl, rfl⟩))) | (with_reducible refine (And.intro (a := keeps _ _ _) ?_ ?_); focus (first | (simp [keeps_cons, keeps_none, objs_app, objs_app0]; done) | (simp only [keeps_cons, keeps_none, objs_app0, objs_app, and_true]; first | rfl | exact ⟨rfl, rfl⟩ | exact ⟨rfl, rfl, rfl⟩))) | (refine both_ways ?_ ?_) | (rw [wrap_i64 (by omega) (by omega)]) | (refine guardV_split (fun h => ?_) (fun h => ?_) <;> (try rw [h]) <;> (try simp at h) <;> (try (exfalso; omega))) | (refine nth_get hy ?_) | (refine build_slice E44 rfl (by decide) (by intro v hv; simp at hv; rcases hv with rfl | rfl | rfl <;> exact ⟨by simp only [go_sem], rfl⟩) ?_))
        refine intsB_c (l := [y.x.num, y.x.kind, y.x.size]) hi3 (by simp) (by omega) (by rw [canApp_app]; exact hgr.c) fun s2 tk2 hg hc2 => ?_
        have hcell := hg.cell rfl
        have hgr2 := hg.gr hgr.app hc2
        have l1 := numsB_len hi1
        have l2 := numsB_len hi2
        have l3 := textsB_len hi4
        have l0 := numsN hi3 3
        simp only [List.take_succ_cons, List.take_zero, List.length_cons, List.length_nil] at l0
        repeat' (first | (simp -dsimp only [↓reduceIte, go_sem, t4, t16, t17, t18, hcell]) | (refine arr_intro fun _ => ?_) | (refine later_intro ⟨keeps_nil, ?_⟩) | (refine later_intro ⟨keeps_refl, ?_⟩) | (with_reducible refine keeps_go ?_ ?_; focus (first | (simp [keeps_cons, keeps_none, objs_app, objs_app0]; done) | (simp only [keeps_cons, keeps_none, objs_app0, objs_app, and_true]; first | rfl | exact ⟨rfl, rfl⟩ | exact ⟨rfl, rfl, rfl⟩))) | (with_reducible refine (And.intro (a := keeps _ _ _) ?_ ?_); focus (first | (simp [keeps_cons, keeps_none, objs_app, objs_app0]; done) | (simp only [keeps_cons, keeps_none, objs_app0, objs_app, and_true]; first | rfl | exact ⟨rfl, rfl⟩ | exact ⟨rfl, rfl, rfl⟩))) | (refine both_ways ?_ ?_) | (rw [wrap_i64 (by omega) (by omega)]) | (refine guardV_split (fun h => ?_) (fun h => ?_) <;> (try rw [h]) <;> (try simp at h) <;> (try (exfalso; omega))) | (refine numbersB_c hi1 ?_) | (refine textsB_c ?_) | (refine numbersB_c hi2 ?_) | (refine append_text E51 Try.underlying9 hc2 (by simp only [List.length_append]; omega) (by simp only [maxL, List.length_append]; omega) ?_) | (refine append_text E51 Try.underlying9 (by simp only [List.length_append]; exact canApp_grow hc2) (by simp only [List.length_append]; omega) (by simp only [maxL, List.length_append]; omega) ?_) | (refine append_text E51 Try.underlying9 (by simp only [List.length_append]; exact canApp_grow (canApp_grow hc2)) (by simp only [List.length_append]; omega) (by simp only [maxL, List.length_append]; omega) ?_))
        refine later_intro ⟨i + 1, by omega, _, _, by omega, hgr2.grow.grow.grow, ?_, ?_, ?_, ?_, ?_⟩ <;> (try simp only [go_sem, t4, t16, t17, t18]) <;> (try rfl)
        · rw [e]; simp only [leafG, List.length_append]; omega
        · rw [e]; simp only [leafG, List.append_assoc]
      · have hb : i = l.length := by simp at hb; omega
        have h4 := hN i
        rw [hb, List.take_length] at t4 h4
        have em : (l.map (·.x)).flatMap leafG = l.flatMap fun y => leafG y.x := by simp [List.flatMap_map]
        rw [em] at hK
        repeat' (first | (simp -dsimp only [↓reduceIte, go_sem, t4, t16, t17, t18, u8s_length]) | (refine arr_intro fun _ => ?_) | (refine later_intro ⟨keeps_nil, ?_⟩) | (refine later_intro ⟨keeps_refl, ?_⟩) | (with_reducible refine keeps_go ?_ ?_; focus (first | (simp [keeps_cons, keeps_none, objs_app, objs_app0]; done) | (simp only [keeps_cons, keeps_none, objs_app0, objs_app, and_true]; first | rfl | exact ⟨rfl, rfl⟩ | exact ⟨rfl, rfl, rfl⟩))) | (with_reducible refine (And.intro (a := keeps _ _ _) ?_ ?_); focus (first | (simp [keeps_cons, keeps_none, objs_app, objs_app0]; done) | (simp only [keeps_cons, keeps_none, objs_app0, objs_app, and_true]; first | rfl | exact ⟨rfl, rfl⟩ | exact ⟨rfl, rfl, rfl⟩))) | (refine both_ways ?_ ?_) | (rw [wrap_i64 (by omega) (by omega)]) | (refine guardV_split (fun h => ?_) (fun h => ?_) <;> (try rw [h]) <;> (try simp at h) <;> (try (exfalso; omega))))
        · skip
          rw [if_pos (by omega)] at hK; exact ⟨hgr.x, rfl, hK⟩
        · rw [if_neg (by omega)] at hK; exact ⟨hgr.x, rfl, hK⟩
end Go.Aff.L21

namespace Go.Aff.L21
open Go.Proofs Go.Aff Go.Aff.L01 Classical
set_option maxRecDepth 20000
attribute [local go_sem] push_app app_app length_app cellAt_app cellAt_app0 set_app set_app0 objs_app objs_app0 List.cons_append List.nil_append List.length_cons List.length_nil List.getElem?_cons_zero List.getElem?_cons_succ List.set_cons_zero List.set_cons_succ
attribute [-go_sem] cellAt_new
attribute [local go_sem] Try.underlying22 fits29 fits44 fits46 p46_0 p46_1 p46_2 p46_3 p46_4 p46_5 Try.underlying84
attribute [local go_sem] fits3
attribute [local go_sem ↓] blockQ_exit2
attribute [local go_sem] List.length_map
attribute [-simp] List.length_flatMap
attribute [local go_sem] zt46 zero46 agg_leaf known_leaf

def Light (l : List Leaf) : Prop := l.length ≤ 60 ∧ ∀ x ∈ l, x.blocks.length ≤ 40 ∧ x.names.length ≤ 80 ∧ x.nodes.length ≤ 80
theorem lay_c {l : List TLeaf} {tk : Tk} {σ : AST} {K : AV → AST → Prop} (hT : Table (l.map (·.x))) (hL : Light (l.map (·.x))) (hK : K (.str ((l.map (·.x)).flatMap leafS)) σ) : TCalls Try.prog 43 [.slice tk (l.map leafV)] σ K := by
  refine TCalls.drop ?_
  have h32 := table_len hT
  have hR : ∀ y ∈ l, y.x.Right := fun y hy => by
    obtain ⟨i, hi⟩ := List.mem_iff_getElem?.1 hy
    exact (hT i y.x (tableAt hi)).1
  have hLL : ∀ y ∈ l, y.x.blocks.length ≤ 40 ∧ y.x.names.length ≤ 80 ∧ y.x.nodes.length ≤ 80 := fun y hy => hL.2 y.x (List.mem_map.2 ⟨y, hy, rfl⟩)
  have hS : ∀ y ∈ l, leafS y.x = leafG y.x := fun y hy => by
    have h1 := hLL y hy
    have h2 := (hR y hy).ints.2.2.2
    have a1 : numsB y.x.blocks = laidAll numS y.x.blocks := by unfold numsB; rw [if_neg (by omega)]
    have a2 : numsB y.x.nodes = laidAll numS y.x.nodes := by unfold numsB; rw [if_neg (by omega)]
    have a3 : textsB y.x.names = laidAll textS y.x.names := by
      unfold textsB; rw [if_neg]
      rintro (h | ⟨s, hs, h⟩)
      · omega
      · have := h2 s hs; omega
    rw [leafS, leafG, a1, a2, a3]
  have hN : ∀ i, ((l.take i).flatMap fun y => leafS y.x).length ≤ l.length * 40000 := fun i => flatN fun y hy => by rw [hS y hy]; exact leafG_len (hR y hy)
  rw [List.length_map] at h32
  refine tcalls_walk Try.f43 _ [.tmp 2] Try.func43 rfl rfl rfl mixed (Nat.le_of_ble_eq_true rfl) rfl fun hlen => ?_
  simp -dsimp only [↓reduceIte, go_sem]
  refine awp_rounds (fun (i : Nat) τ s => Ext σ s ∧ i ≤ l.length ∧ τ 0 = .slice tk (l.map leafV) ∧ τ 3 = .str ((l.take i).flatMap fun y => leafS y.x) ∧ τ 4 = .int .i64 i) (fun i => l.length - i) 0 ?_ ?_
  · refine ⟨Ext.refl _, by omega, ?_, ?_, ?_⟩ <;> (try simp only [go_sem]) <;> rfl
  · rintro i τ s ⟨hx, hi, t0, t3, t4⟩
    simp -dsimp only [↓reduceIte, go_sem, t0, t3, t4]
    refine arr_intro fun _ => ?_
    simp -dsimp only [↓reduceIte, go_sem, t0, t3, t4]
    refine boolW_split (fun hb => ?_) (fun hb => ?_)
    · have hb : i < l.length := by simp at hb; omega
      obtain ⟨y, hy⟩ := get_lt hb
      have hm := List.mem_of_getElem? hy
      obtain ⟨hi1, hi2, hi3, hi4⟩ := (hR y hm).ints
      obtain ⟨hb1, hb2, hb3⟩ := hLL y hm
      have hNi := hN i
      have e : (l.take (i + 1)).flatMap (fun y => leafS y.x) = (l.take i).flatMap (fun y => leafS y.x) ++ leafS y.x := flat_take hy
      have hG := leafG_len (hR y hm)
      rw [← hS y hm] at hG
      simp only [leafS, laidAll, part_all, List.length_append, List.length_cons, List.length_nil] at hG
      repeat' (first | (simp -dsimp only [↓reduceIte, go_sem, t0, t3, t4, leafV]) | (refine arr_intro fun _ => ?_) | (refine later_intro ⟨keeps_nil, ?_⟩) | (refine later_intro ⟨keeps_refl, ?_⟩) | (with_reducible refine keeps_go ?_ ?_; focus (first | (simp [keeps_cons, keeps_none, objs_app, objs_app0]; done) | (simp only [keeps_cons, keeps_none, objs_app0, objs_app, and_true]; first | rfl | exact ⟨rfl, rfl⟩ | exact ⟨rfl, rfl, rfl⟩))) | (with_reducible refine (And.intro (a := keeps _ _ _) ?_ ?_); focus (first | (simp [keeps_cons, keeps_none, objs_app, objs_app0]; done) | (simp only [keeps_cons, keeps_none, objs_app0, objs_app, and_true]; first | rfl | exact ⟨rfl, rfl⟩ | exact ⟨rfl, rfl, rfl⟩))) | (refine both_ways ?_ ?_) | (rw [wrap_i64 (by omega) (by omega)]) | (refine guardV_split (fun h => ?_) (fun h => ?_) <;> (try rw [h]) <;> (try simp at h) <;> (try (exfalso; omega))) | (refine nth_get hy ?_) | (with_reducible refine awp_drawS (id := 6) [0, 1, 2, 3, 4, 5, 6, 7, 11, 12, 16, 17, 21, 22, 8, 9, 10, 13, 14, 15, 18, 19, 20, 23, 24, 25, 26] (by kernel_rfl) ?_) | (refine build_slice E44 rfl (by decide) (by intro v hv; simp at hv; rcases hv with rfl | rfl | rfl <;> exact ⟨by simp only [go_sem], rfl⟩) ?_) | (refine Ints_c (l := [y.x.num, y.x.kind, y.x.size]) hi3 (by simp) ?_) | (refine Ints_c hi1 (by omega) ?_) | (refine Ints_c hi2 (by omega) ?_) | (refine Texts_c (fun s hs => Nat.le_trans (hi4 s hs) (by omega)) (by omega) ?_) | (refine side_later (by simp only [maxL, laidAll, part_all, List.length_append, List.length_cons, List.length_nil]; omega) ?_))
      refine later_intro ⟨i + 1, by omega, hx.trans (Ext.app _ _), by omega, ?_, ?_, ?_⟩ <;> (try simp only [go_sem, t0, t3, t4]) <;> (try rfl)
      rw [e]
      simp [leafS, laidAll, part_all]
    · have hb : i = l.length := by simp at hb; omega
      rw [hb, List.take_length] at t3
      have em : (l.map (·.x)).flatMap leafS = l.flatMap fun y => leafS y.x := by simp [List.flatMap_map]
      rw [em] at hK
      repeat' (first | (simp -dsimp only [↓reduceIte, go_sem, t0, t3, t4]) | (refine arr_intro fun _ => ?_) | (refine later_intro ⟨keeps_nil, ?_⟩) | (refine later_intro ⟨keeps_refl, ?_⟩) | (with_reducible refine keeps_go ?_ ?_; focus (first | (simp [keeps_cons, keeps_none, objs_app, objs_app0]; done) | (simp only [keeps_cons, keeps_none, objs_app0, objs_app, and_true]; first | rfl | exact ⟨rfl, rfl⟩ | exact ⟨rfl, rfl, rfl⟩))) | (with_reducible refine (And.intro (a := keeps _ _ _) ?_ ?_); focus (first | (simp [keeps_cons, keeps_none, objs_app, objs_app0]; done) | (simp only [keeps_cons, keeps_none, objs_app0, objs_app, and_true]; first | rfl | exact ⟨rfl, rfl⟩ | exact ⟨rfl, rfl, rfl⟩))) | (refine both_ways ?_ ?_) | (rw [wrap_i64 (by omega) (by omega)]) | (refine guardV_split (fun h => ?_) (fun h => ?_) <;> (try rw [h]) <;> (try simp at h) <;> (try (exfalso; omega))))
      exact ⟨hx, rfl, hK⟩
end Go.Aff.L21

namespace Go.Aff

variable {P : Program} {σ σ' : AST} {K : AV → AST → Prop} {KV : AV → Prop}

section
variable {dst : Option Nat} {ty : TypeId} {pos : String} {after : Array Edge} {gd : Option (Nat × Bool)} {ρ : Operand → AV}
theorem op_copy {x y : Operand} {ts : Array TypeId} : opW P ρ ⟨dst, .call ⟨.builtin .copy, #[x, y], ts⟩, ty, pos, after, gd⟩ σ K = copyW P ts (ρ x) (ρ y) σ K := nr rfl
end
def convA (o : Option AV) (K : AV → Prop) : Prop := match o with
  | some (.dig d) => K (.str d.l)
  | _ => False
theorem convA_dig {d : Dig} : convA (some (.dig d)) KV = KV (.str d.l) := nr rfl
attribute [go_sem ↓] op_copy
attribute [go_sem] convA_dig
theorem get_pred {α : Type} {l : List α} {i : Nat} {y : α} (h : l[i]? = some y) (h0 : 0 < i) : l[i - 1]? = some (l[i - 1]'(by have := (List.getElem?_eq_some_iff.1 h).1; omega)) := List.getElem?_eq_getElem _
theorem nth_pred {α : Type} {l : List α} {i : Nat} {y : α} {F : α → Prop} (h : l[i]? = some y) (h0 : 0 < i) (hF : F (l[i - 1]'(by have := (List.getElem?_eq_some_iff.1 h).1; omega))) : nthW l ((i : Int) - 1) (@LamA _ ⟨F⟩) := by
  rw [show (i : Int) - 1 = ((i - 1 : Nat) : Int) by omega]; exact nth_get (get_pred h h0) hF
theorem keeps_cons {k : Nat} {ks : List Nat} : keeps (k :: ks) σ σ' = (σ'.objs[k]? = σ.objs[k]? ∧ keeps ks σ σ') := by simp [keeps]
theorem keeps_go {ks : List Nat} {R : Prop} (h : keeps ks σ σ') (hR : R) : @Later ⟨keeps ks σ σ' ∧ R⟩ := ⟨h, hR⟩
theorem reads_pick {ρ : Operand → AV} {a b c : Operand} : reads ρ (.pick a b c) = [] := rfl
theorem reads_makeFunc {ρ : Operand → AV} {f : Fn} {a b : Array Operand} : reads ρ (.makeFunc f a b) = [] := rfl
theorem reads_makeInterface {ρ : Operand → AV} {t : TypeId} {x : Operand} : reads ρ (.makeInterface t x) = [] := rfl
attribute [go_sem] reads_pick reads_makeFunc reads_makeInterface
theorem get_of_lt {α : Type} {l : List α} {i : Nat} (h : i < l.length) : ∃ y, l[i]? = some y ∧ y ∈ l := ⟨l[i], List.getElem?_eq_getElem h, List.getElem_mem h⟩
end Go.Aff

namespace Go.Aff.L10
open Go.Proofs Go.Aff Go.Aff.L01 Classical
set_option maxRecDepth 20000
theorem dig_ext {a b : Dig} : a.l = b.l ↔ a = b := by
  cases a; cases b; simp
theorem eq_int3 {n : Nat} {a b : Int} : eqA Try.prog (n + 1) 3 (.int .i64 a) (.int .i64 b) = some (a == b) := by
  simp [eqA, Try.underlying3]
theorem eqAs_cons {n i : Nat} {t : TypeId} {f : Field} {fs : List Field} {x y : AV} {xs ys ax ay : List AV} (h : (f.name ≠ "_" ∧ f.offset = AV.sizes (ax.take i) ∧ f.offset = AV.sizes (ay.take i) ∧ aggT Try.prog f.type = some x.isAgg ∧ Try.prog.cellsOf f.type = x.size ∧ aggT Try.prog f.type = some y.isAgg ∧ Try.prog.cellsOf f.type = y.size)) {b : Bool} (hb : eqA Try.prog n f.type x y = some b) :
    eqAs Try.prog (n + 1) t i (f :: fs) (x :: xs) (y :: ys) ax ay = if b = true then eqAs Try.prog n t (i + 1) fs xs ys ax ay else some false := by
  simp only [eqAs]
  rw [if_pos h, hb]
  cases b <;> rfl
theorem fits5 {v : AV} : fits Try.prog 5 v = (v.isAgg = false ∧ v.size = 1) := fits_leaf (by kernel_rfl) (by kernel_rfl)
theorem fits26 {v : AV} : fits Try.prog 68 v = (v.isAgg = false ∧ v.size = 1) := fits_leaf (by kernel_rfl) (by kernel_rfl)
theorem fits31 {v : AV} : fits Try.prog 50 v = (v.isAgg = false ∧ v.size = 1) := fits_leaf (by kernel_rfl) (by kernel_rfl)
theorem fits23 {v : AV} : fits Try.prog 65 v = (v.isAgg = true ∧ v.size = 32) := fits_agg (by kernel_rfl) (by kernel_rfl)
theorem zero3 : zeroA Try.prog 12 3 = .int .i64 0 := by kernel_rfl
theorem zt3 : ZeroOf Try.prog 3 (.int .i64 0) = True := eq_true ⟨_, _, rfl, rfl, rfl, rfl, rfl⟩
end Go.Aff.L10

namespace Go.Aff.L10
open Go.Proofs Go.Aff Go.Aff.L01 Classical

def In (lo hi n : Int) : Prop := lo ≤ n ∧ n ≤ hi
def ViewOk (k : Int) (h : List UInt8) : Prop := (∀ b ∈ h, (b.toNat : Int) < k) ∧ h.length ≤ 512 ∧ 1 ≤ k ∧ k ≤ 256
def Sub.Ok (x : Sub) : Prop := In 1 512 x.num ∧ In 1 2 x.kind ∧ In 0 7 x.target ∧ x.value.length ≤ 256
def Pend.Ok (p : Pend) : Prop := In 0 7 p.client ∧ In 0 7 p.target ∧ In 1 512 p.num ∧ In 1 2 p.kind
def Rep.Ok (x : Rep) : Prop := (∀ p ∈ x.pending, p.Ok) ∧ In 1 512 x.num ∧ In (-1) 7 x.last ∧ (x.view = [] ↔ x.last = -1) ∧ x.pending.length ≤ 8 ∧ ViewOk 8 x.view ∧ ViewOk 8 x.seen ∧ In 0 512 x.vnum ∧ x.value.length ≤ 256
def Blob.Ok (b : Blob) : Prop := In 0 7 b.owner ∧ In 0 1099511627776 b.num ∧ b.cipher.length ≤ 4096
def NumsOk (l : List Int) : Prop := (∀ (i : Nat) n, l[i]? = some n → In 0 1099511627776 n ∧ ∀ m, 0 < i → l[i - 1]? = some m → m < n) ∧ In 1 64 l.length
def Msg.own_ (m : Msg) : Msg :=
  if m.kind = 1 then { msg0 with kind := m.kind, client := m.client, sub := m.sub }
  else if m.kind = 2 then { msg0 with kind := m.kind, client := 0, rep := m.rep }
  else if m.kind = 3 then { msg0 with kind := m.kind, client := m.client, view := m.view, tag := m.tag }
  else if m.kind = 4 ∨ m.kind = 6 then { msg0 with kind := m.kind, client := 0, blob := m.blob }
  else if m.kind = 5 ∨ m.kind = 7 ∨ m.kind = 8 then { msg0 with kind := m.kind, client := m.client, nums := m.nums }
  else if m.kind = 10 then { msg0 with kind := m.kind, client := m.client, by_ := m.by_, view := m.view, tag := m.tag, own := m.own }
  else if m.kind = 11 then { msg0 with kind := m.kind, client := m.client, own := m.own }
  else { msg0 with kind := m.kind, client := m.client }
def Msg.FieldsOk (m : Msg) : Prop :=
  if m.kind = 1 then m.sub.Ok
  else if m.kind = 2 then m.rep.Ok
  else if m.kind = 3 then m.view ≠ [] ∧ ViewOk 8 m.view
  else if m.kind = 4 ∨ m.kind = 6 then m.blob.Ok
  else if m.kind = 5 ∨ m.kind = 7 ∨ m.kind = 8 then NumsOk m.nums
  else if m.kind = 10 then In 0 7 m.by_ ∧ m.view ≠ [] ∧ ViewOk 8 m.view
  else m.kind = 9 ∨ m.kind = 11
def Msg.Ok (m : Msg) : Prop := m.FieldsOk ∧ In 0 7 m.client ∧ m.own_ = m
end Go.Aff.L10

namespace Go.Aff.L10
open Go.Proofs Go.Aff Go.Aff.L01 Classical
set_option maxRecDepth 20000
attribute [local go_sem] push_app app_app length_app cellAt_app cellAt_app0 set_app set_app0 objs_app objs_app0 List.cons_append List.nil_append List.length_cons List.length_nil List.getElem?_cons_zero List.getElem?_cons_succ List.set_cons_zero List.set_cons_succ List.length_map
attribute [-go_sem] cellAt_new
attribute [-simp] List.length_flatMap
attribute [local go_sem ↓] blockQ_exit2
attribute [local go_sem] bin_bool_ne

attribute [local go_sem] Try.underlying5 Try.underlying9 Try.underlying65 Try.underlying68 Try.underlying50 Try.underlying123 subPs_0 subAt_0 subPs_1 subAt_1 subPs_2 subAt_2 subPs_3 subAt_3 subPs_4 subAt_4 subPs_5 subAt_5 sizes_sub fits_sub Try.underlying67 pendPs_0 pendAt_0 pendPs_1 pendAt_1 pendPs_2 pendAt_2 pendPs_3 pendAt_3 pendPs_4 pendAt_4 pendPs_5 pendAt_5 sizes_pend shapes_pend fits_pend zero_pend zt_pend Try.underlying163 repPs_0 repAt_0 repPs_1 repAt_1 repPs_2 repAt_2 repPs_3 repAt_3 repPs_4 repAt_4 repPs_5 repAt_5 repPs_6 repAt_6 repPs_7 repAt_7 repPs_8 repAt_8 repPs_9 repAt_9 sizes_rep fits_rep Try.underlying70 blobPs_0 blobAt_0 blobPs_1 blobAt_1 blobPs_2 blobAt_2 blobPs_3 blobAt_3 sizes_blob fits_blob Try.underlying72 msgPs_0 msgAt_0 msgPs_1 msgAt_1 msgPs_2 msgAt_2 msgPs_3 msgAt_3 msgPs_4 msgAt_4 msgPs_5 msgAt_5 msgPs_6 msgAt_6 msgPs_7 msgAt_7 msgPs_8 msgAt_8 msgPs_9 msgAt_9 Try.underlying74
attribute [local go_sem] fits3 fits5 fits9 fits23 fits26 fits31 zt3
theorem flatN {α : Type} {f : α → List UInt8} {l : List α} {m i : Nat} (h : ∀ x ∈ l, (f x).length ≤ m) : ((l.take i).flatMap f).length ≤ l.length * m := by
  have := flat_len (f := f) (m := m) (l := l.take i) (fun x hx => h x (List.mem_of_mem_take hx))
  have h2 : (l.take i).length * m ≤ l.length * m := Nat.mul_le_mul_right m (by simp; omega)
  omega
def InI (l : List Int) : Prop := ∀ n ∈ l, -9223372036854775808 ≤ n ∧ n ≤ 9223372036854775807
theorem numsN {l : List Int} (hl : InI l) : ∀ i, ((l.take i).flatMap numS).length ≤ l.length * 22 := fun i => flatN fun n hn => numS_len (hl n hn).1 (hl n hn).2

theorem E31 : ElemT Try.prog 50 3 1 8 := ⟨rfl, by kernel_rfl, by kernel_rfl, ⟨_, of_eq_true zt3⟩, by decide⟩
theorem partInt {n : Int} : fits Try.prog 3 (.int .i64 n) ∧ (AV.int .i64 n).known = true := by simp [go_sem]
section
variable {KV : AV → Prop}
theorem bI1 {a : Int} (h : KV (.slice .full ([a].map (AV.int .i64)))) : buildSliceW Try.prog 50 1 [(0, .int .i64 a)] KV := build_slice E31 rfl (by decide) (by simp [partInt]) h
theorem bI2 {a b : Int} (h : KV (.slice .full ([a, b].map (AV.int .i64)))) : buildSliceW Try.prog 50 2 [(0, .int .i64 a), (1, .int .i64 b)] KV := build_slice E31 rfl (by decide) (by simp [partInt]) h
theorem bI3 {a b c : Int} (h : KV (.slice .full ([a, b, c].map (AV.int .i64)))) : buildSliceW Try.prog 50 3 [(0, .int .i64 a), (1, .int .i64 b), (2, .int .i64 c)] KV := build_slice E31 rfl (by decide) (by simp [partInt]) h
theorem bI4 {a b c d : Int} (h : KV (.slice .full ([a, b, c, d].map (AV.int .i64)))) : buildSliceW Try.prog 50 4 [(0, .int .i64 a), (1, .int .i64 b), (2, .int .i64 c), (3, .int .i64 d)] KV := build_slice E31 rfl (by decide) (by simp [partInt]) h
end
theorem textS_le {s : List UInt8} {m : Nat} (hs : s.length ≤ m) (hm : m ≤ 16384) : (textS s).length ≤ m + 21 := by
  have := dg_len20 (show s.length < 18446744073709551616 by omega)
  simp [textS]; omega
abbrev digS (d : Dig) : List UInt8 := textS d.l
theorem digs_take {l : List Dig} {i : Nat} : ((l.take i).flatMap digS).length ≤ l.length * 53 := flatN (f := digS) fun d _ => textS_le (m := 32) (by simp [d.h]) (by omega)
def pendB (p : Pend) : List UInt8 := [p.client, p.num, p.kind, p.target].flatMap numS ++ [p.asked, p.proof].flatMap digS
def ansB (x : Rep) : List UInt8 := [x.num, x.last].flatMap numS ++ textS x.view ++ [x.commit].flatMap digS ++ [(x.pending.length : Int)].flatMap numS ++ x.pending.flatMap pendB ++ [x.vnum].flatMap numS ++ textS x.value ++ [x.data].flatMap digS ++ textS x.seen ++ [x.seenTag].flatMap digS
theorem Pend.Ok.in_ {p : Pend} (h : p.Ok) : InI [p.client, p.num, p.kind, p.target] := by
  obtain ⟨h1, h2, h3, h4⟩ := h
  simp only [In] at h1 h2 h3 h4
  intro n hn
  simp at hn
  omega
def subB (x : Sub) : List UInt8 := [x.num, x.kind, x.target].flatMap numS ++ textS x.value ++ [x.asked, x.data].flatMap digS
def blobB (x : Blob) : List UInt8 := [x.owner, x.num].flatMap numS ++ textS x.cipher ++ [x.tag].flatMap digS
def Msg.rest (m : Msg) : List UInt8 :=
  if m.kind = 1 then subB m.sub
  else if m.kind = 2 then ansB m.rep
  else if m.kind = 3 then textS m.view ++ [m.tag].flatMap digS
  else if m.kind = 4 ∨ m.kind = 6 then blobB m.blob
  else if m.kind = 5 ∨ m.kind = 7 ∨ m.kind = 8 then laidAll numS m.nums
  else if m.kind = 10 then [m.by_].flatMap numS ++ textS m.view ++ [m.tag, m.own].flatMap digS
  else if m.kind = 11 then [m.own].flatMap digS else []
def Msg.bytes (m : Msg) : List UInt8 := [m.kind].flatMap numS ++ (if m.kind = 2 ∨ m.kind = 4 ∨ m.kind = 6 then [] else [m.client].flatMap numS) ++ m.rest

theorem Msg.Ok.kinds {m : Msg} (h : m.Ok) : (m.kind = 1 ∧ m.sub.Ok) ∨ (m.kind = 2 ∧ m.rep.Ok) ∨ (m.kind = 3 ∧ m.view ≠ [] ∧ ViewOk 8 m.view) ∨ (m.kind = 4 ∧ m.blob.Ok) ∨ (m.kind = 5 ∧ NumsOk m.nums) ∨ (m.kind = 6 ∧ m.blob.Ok) ∨ (m.kind = 7 ∧ NumsOk m.nums) ∨ (m.kind = 8 ∧ NumsOk m.nums) ∨ m.kind = 9 ∨ (m.kind = 10 ∧ In 0 7 m.by_ ∧ m.view ≠ [] ∧ ViewOk 8 m.view) ∨ m.kind = 11 := by
  have h := h.1
  unfold Msg.FieldsOk at h
  split at h
  · simp_all
  split at h
  · simp_all
  split at h
  · simp_all
  split at h
  · rename_i hk; rcases hk with hk | hk <;> simp_all
  split at h
  · rename_i hk; rcases hk with hk | hk | hk <;> simp_all
  split at h
  · simp_all
  rcases h with h | h <;> simp_all
theorem NumsOk.in_ {l : List Int} (h : NumsOk l) : InI l := fun n hn => by
  obtain ⟨i, hi, rfl⟩ := List.getElem_of_mem hn
  have := (h.1 i _ (List.getElem?_eq_getElem hi)).1
  simp only [In] at this
  omega

theorem build_u8 {KV : AV → Prop} {y : UInt8} (h : KV (.slice .full (u8s [y]))) : buildSliceW Try.prog 123 1 [(0, .int .u8 y.toNat)] KV :=
  build_slice E51 rfl (by decide) (by simp [go_sem, fits_leaf (P := Try.prog) (t := 5) L01.agg5 (by kernel_rfl)]) (by simpa [u8s] using h)
theorem refBytes_c {d : Dig} {σ : AST} {K : AV → AST → Prop} (hK : K (.str d.l) σ) : TCalls Try.prog 96 [.dig d] σ K := by
  refine TCalls.drop ?_
  refine tcalls_walk Try.f96 _ [.tmp 2] Try.func96 rfl rfl rfl mixed (Nat.le_of_ble_eq_true rfl) rfl fun hlen => ?_
  repeat' (first | (simp -dsimp only [↓reduceIte, go_sem]) | (refine arr_intro fun _ => ?_) | (refine later_intro ⟨keeps_nil, ?_⟩) | (refine later_intro ⟨keeps_refl, ?_⟩) | (with_reducible refine keeps_go ?_ ?_; focus (first | (simp [keeps_cons, keeps_none, objs_app, objs_app0]; done) | (simp only [keeps_cons, keeps_none, objs_app0, objs_app, and_true]; first | rfl | exact ⟨rfl, rfl⟩ | exact ⟨rfl, rfl, rfl⟩))) | (with_reducible refine (And.intro (a := keeps _ _ _) ?_ ?_); focus (first | (simp [keeps_cons, keeps_none, objs_app, objs_app0]; done) | (simp only [keeps_cons, keeps_none, objs_app0, objs_app, and_true]; first | rfl | exact ⟨rfl, rfl⟩ | exact ⟨rfl, rfl, rfl⟩))) | (refine both_ways ?_ ?_) | (rw [wrap_i64 (by omega) (by omega)]) | (refine guardV_split (fun h => ?_) (fun h => ?_) <;> (try rw [h]) <;> (try simp at h) <;> (try (exfalso; omega))))
  have hd := d.h
  have hx0 : Ext σ (σ.app [.cells (.dig d)]) := Ext.app _ _
  have ho0 : (σ.app [.cells (.dig d)]).objs[σ.objs.length]? = some (.cells (.dig d)) := objs_app0
  refine awp_rounds (fun (i : Nat) τ s => ∃ tk, i ≤ 32 ∧ Gr σ s tk i ∧ s.objs[σ.objs.length]? = some (.cells (.dig d)) ∧ τ 1 = .ptr (some (σ.objs.length, [])) ∧ τ 3 = .slice tk (u8s (d.l.take i)) ∧ τ 4 = .int .i64 i) (fun i => 32 - i) 0 ?_ ?_
  · refine ⟨.full, by omega, Gr.start' hx0, ho0, ?_, ?_, ?_⟩ <;> (try simp only [go_sem]) <;> rfl
  · rintro i τ s ⟨tk, hi, hg, ho, t1, t3, t4⟩
    have c := cellAt_known ho
    simp -dsimp only [↓reduceIte, go_sem, t1, t3, t4]
    refine boolW_split (fun hb => ?_) (fun hb => ?_)
    · have hb : i < 32 := by simp at hb; omega
      obtain ⟨y, hy, hm⟩ := get_of_lt (l := d.l) (i := i) (by omega)
      have htk : d.l.take (i + 1) = d.l.take i ++ [y] := by rw [List.take_add_one, hy]; simp
      have hle : (d.l.take i).length = i := by simp; omega
      repeat' (first | (simp -dsimp only [↓reduceIte, go_sem, t1, t3, t4, c, at_dig1, hy]) | (refine arr_intro fun _ => ?_) | (refine later_intro ⟨keeps_nil, ?_⟩) | (refine later_intro ⟨keeps_refl, ?_⟩) | (with_reducible refine keeps_go ?_ ?_; focus (first | (simp [keeps_cons, keeps_none, objs_app, objs_app0]; done) | (simp only [keeps_cons, keeps_none, objs_app0, objs_app, and_true]; first | rfl | exact ⟨rfl, rfl⟩ | exact ⟨rfl, rfl, rfl⟩))) | (with_reducible refine (And.intro (a := keeps _ _ _) ?_ ?_); focus (first | (simp [keeps_cons, keeps_none, objs_app, objs_app0]; done) | (simp only [keeps_cons, keeps_none, objs_app0, objs_app, and_true]; first | rfl | exact ⟨rfl, rfl⟩ | exact ⟨rfl, rfl, rfl⟩))) | (refine both_ways ?_ ?_) | (rw [wrap_i64 (by omega) (by omega)]) | (refine guardV_split (fun h => ?_) (fun h => ?_) <;> (try rw [h]) <;> (try simp at h) <;> (try (exfalso; omega))) | (refine indexAddr_dig Try.underlying65 (by simp [go_sem]) (c []) hb ?_) | (refine build_u8 ?_) | (refine append_bytes E51 S51 (canApp_of hg.c hle) (by simp only [hle, List.length_cons, List.length_nil]; omega) (by simp only [maxL, hle, List.length_cons, List.length_nil]; omega) ?_))
      refine later_intro ⟨i + 1, by omega, growT s tk, by omega, ?_, ?_, ?_, ?_, ?_⟩ <;> (try simp only [go_sem, t1, t3, t4])
      · have := hg.grow (m := i + 1); simpa [hle] using this
      · rw [growS_objs]; exact ho
      · rw [htk]
      · rfl
    · have hb : i = 32 := by simp at hb; omega
      subst hb
      have ht : d.l.take 32 = d.l := List.take_of_length_le (by omega)
      rw [ht] at t3
      repeat' (first | (simp -dsimp only [↓reduceIte, go_sem, t1, t3, t4]) | (refine arr_intro fun _ => ?_) | (refine later_intro ⟨keeps_nil, ?_⟩) | (refine later_intro ⟨keeps_refl, ?_⟩) | (with_reducible refine keeps_go ?_ ?_; focus (first | (simp [keeps_cons, keeps_none, objs_app, objs_app0]; done) | (simp only [keeps_cons, keeps_none, objs_app0, objs_app, and_true]; first | rfl | exact ⟨rfl, rfl⟩ | exact ⟨rfl, rfl, rfl⟩))) | (with_reducible refine (And.intro (a := keeps _ _ _) ?_ ?_); focus (first | (simp [keeps_cons, keeps_none, objs_app, objs_app0]; done) | (simp only [keeps_cons, keeps_none, objs_app0, objs_app, and_true]; first | rfl | exact ⟨rfl, rfl⟩ | exact ⟨rfl, rfl, rfl⟩))) | (refine both_ways ?_ ?_) | (rw [wrap_i64 (by omega) (by omega)]) | (refine guardV_split (fun h => ?_) (fun h => ?_) <;> (try rw [h]) <;> (try simp at h) <;> (try (exfalso; omega))))
      exact ⟨hg.x, rfl, by simpa [AV.strip] using hK⟩

theorem refInts_c {l : List Int} {tk : Tk} {σ : AST} {K : AV → AST → Prop} (hl : InI l) (hn : l.length ≤ 1000000) (hK : K (.str (l.flatMap numS)) σ) : TCalls Try.prog 68 [.slice tk (l.map (AV.int .i64))] σ K := by
  have hN := numsN hl
  refine tcalls_walk Try.f68 _ [.tmp 2] Try.func68 rfl rfl rfl mixed (Nat.le_of_ble_eq_true rfl) rfl fun hlen => ?_
  repeat' (first | (simp -dsimp only [↓reduceIte, go_sem]) | (refine arr_intro fun _ => ?_) | (refine later_intro ⟨keeps_nil, ?_⟩) | (refine later_intro ⟨keeps_refl, ?_⟩) | (with_reducible refine keeps_go ?_ ?_; focus (first | (simp [keeps_cons, keeps_none, objs_app, objs_app0]; done) | (simp only [keeps_cons, keeps_none, objs_app0, objs_app, and_true]; first | rfl | exact ⟨rfl, rfl⟩ | exact ⟨rfl, rfl, rfl⟩))) | (with_reducible refine (And.intro (a := keeps _ _ _) ?_ ?_); focus (first | (simp [keeps_cons, keeps_none, objs_app, objs_app0]; done) | (simp only [keeps_cons, keeps_none, objs_app0, objs_app, and_true]; first | rfl | exact ⟨rfl, rfl⟩ | exact ⟨rfl, rfl, rfl⟩))) | (refine both_ways ?_ ?_) | (rw [wrap_i64 (by omega) (by omega)]) | (refine guardV_split (fun h => ?_) (fun h => ?_) <;> (try rw [h]) <;> (try simp at h) <;> (try (exfalso; omega))))
  refine awp_rounds (fun (i : Nat) τ s => i ≤ l.length ∧ s = σ ∧ τ 0 = .slice tk (l.map (AV.int .i64)) ∧ τ 3 = .str ((l.take i).flatMap numS) ∧ τ 4 = .int .i64 i) (fun i => l.length - i) 0 ?_ ?_
  · refine ⟨by omega, rfl, ?_, ?_, ?_⟩ <;> (try simp only [go_sem]) <;> rfl
  · rintro i τ s ⟨hi, rfl, t0, t3, t4⟩
    have hNi := hN i
    simp -dsimp only [↓reduceIte, go_sem, t0, t3, t4]
    refine arr_intro fun _ => ?_
    simp -dsimp only [↓reduceIte, go_sem, t0, t3, t4]
    refine boolW_split (fun hb => ?_) (fun hb => ?_)
    · have hb : i < l.length := by simp at hb; omega
      obtain ⟨y, hy, hm⟩ := get_of_lt hb
      have htk : (l.take (i + 1)).flatMap numS = (l.take i).flatMap numS ++ numS y := by
        rw [List.take_add_one, hy]; simp
      have h22 := numS_len (hl y hm).1 (hl y hm).2
      repeat' (first | (simp -dsimp only [↓reduceIte, go_sem, t0, t3, t4]) | (refine arr_intro fun _ => ?_) | (refine later_intro ⟨keeps_nil, ?_⟩) | (refine later_intro ⟨keeps_refl, ?_⟩) | (with_reducible refine keeps_go ?_ ?_; focus (first | (simp [keeps_cons, keeps_none, objs_app, objs_app0]; done) | (simp only [keeps_cons, keeps_none, objs_app0, objs_app, and_true]; first | rfl | exact ⟨rfl, rfl⟩ | exact ⟨rfl, rfl, rfl⟩))) | (with_reducible refine (And.intro (a := keeps _ _ _) ?_ ?_); focus (first | (simp [keeps_cons, keeps_none, objs_app, objs_app0]; done) | (simp only [keeps_cons, keeps_none, objs_app0, objs_app, and_true]; first | rfl | exact ⟨rfl, rfl⟩ | exact ⟨rfl, rfl, rfl⟩))) | (refine both_ways ?_ ?_) | (rw [wrap_i64 (by omega) (by omega)]) | (refine guardV_split (fun h => ?_) (fun h => ?_) <;> (try rw [h]) <;> (try simp at h) <;> (try (exfalso; omega))) | (refine nth_get hy ?_) | (refine L01.Number_c (hl y hm).1 (hl y hm).2 ?_) | (refine side_later (by simp only [maxL, List.length_append]; omega) ?_))
      refine ⟨i + 1, by omega, by omega, rfl, ?_, ?_, ?_⟩ <;> (try simp only [go_sem, t0, t3, t4])
      · rw [htk]
      · rfl
    · have hb : i = l.length := by simp at hb; omega
      subst hb
      repeat' (first | (simp -dsimp only [↓reduceIte, go_sem, t0, t3, t4]) | (refine arr_intro fun _ => ?_) | (refine later_intro ⟨keeps_nil, ?_⟩) | (refine later_intro ⟨keeps_refl, ?_⟩) | (with_reducible refine keeps_go ?_ ?_; focus (first | (simp [keeps_cons, keeps_none, objs_app, objs_app0]; done) | (simp only [keeps_cons, keeps_none, objs_app0, objs_app, and_true]; first | rfl | exact ⟨rfl, rfl⟩ | exact ⟨rfl, rfl, rfl⟩))) | (with_reducible refine (And.intro (a := keeps _ _ _) ?_ ?_); focus (first | (simp [keeps_cons, keeps_none, objs_app, objs_app0]; done) | (simp only [keeps_cons, keeps_none, objs_app0, objs_app, and_true]; first | rfl | exact ⟨rfl, rfl⟩ | exact ⟨rfl, rfl, rfl⟩))) | (refine both_ways ?_ ?_) | (rw [wrap_i64 (by omega) (by omega)]) | (refine guardV_split (fun h => ?_) (fun h => ?_) <;> (try rw [h]) <;> (try simp at h) <;> (try (exfalso; omega))))
      simpa using hK

theorem refText_c {t : List UInt8} {σ : AST} {K : AV → AST → Prop} (hn : t.length ≤ 1000000) (hK : K (.str (textS t)) σ) : TCalls Try.prog 69 [.str t] σ K := by
  have hd := dg_len20 (show t.length < 18446744073709551616 by omega)
  refine tcalls_walk Try.f69 _ [.tmp 2] Try.func69 rfl rfl rfl mixed (Nat.le_of_ble_eq_true rfl) rfl fun hlen => ?_
  repeat' (first | (simp -dsimp only [↓reduceIte, go_sem]) | (refine arr_intro fun _ => ?_) | (refine later_intro ⟨keeps_nil, ?_⟩) | (refine later_intro ⟨keeps_refl, ?_⟩) | (with_reducible refine keeps_go ?_ ?_; focus (first | (simp [keeps_cons, keeps_none, objs_app, objs_app0]; done) | (simp only [keeps_cons, keeps_none, objs_app0, objs_app, and_true]; first | rfl | exact ⟨rfl, rfl⟩ | exact ⟨rfl, rfl, rfl⟩))) | (with_reducible refine (And.intro (a := keeps _ _ _) ?_ ?_); focus (first | (simp [keeps_cons, keeps_none, objs_app, objs_app0]; done) | (simp only [keeps_cons, keeps_none, objs_app0, objs_app, and_true]; first | rfl | exact ⟨rfl, rfl⟩ | exact ⟨rfl, rfl, rfl⟩))) | (refine both_ways ?_ ?_) | (rw [wrap_i64 (by omega) (by omega)]) | (refine guardV_split (fun h => ?_) (fun h => ?_) <;> (try rw [h]) <;> (try simp at h) <;> (try (exfalso; omega))) | (refine L01.Digits_c _ (by omega) ?_) | (refine side_later (by simp only [maxL, List.length_append, List.length_cons, List.length_nil]; omega) ?_))
  simpa [textS] using hK

theorem refDig_c {d : Dig} {σ : AST} {K : AV → AST → Prop} (hK : K (.str (digS d)) σ) : TCalls Try.prog 70 [.dig d] σ K := by
  refine TCalls.drop ?_
  refine tcalls_walk Try.f70 _ [.tmp 2] Try.func70 rfl rfl rfl mixed (Nat.le_of_ble_eq_true rfl) rfl fun hlen => ?_
  repeat' (first | (simp -dsimp only [↓reduceIte, go_sem]) | (refine arr_intro fun _ => ?_) | (refine later_intro ⟨keeps_nil, ?_⟩) | (refine later_intro ⟨keeps_refl, ?_⟩) | (with_reducible refine keeps_go ?_ ?_; focus (first | (simp [keeps_cons, keeps_none, objs_app, objs_app0]; done) | (simp only [keeps_cons, keeps_none, objs_app0, objs_app, and_true]; first | rfl | exact ⟨rfl, rfl⟩ | exact ⟨rfl, rfl, rfl⟩))) | (with_reducible refine (And.intro (a := keeps _ _ _) ?_ ?_); focus (first | (simp [keeps_cons, keeps_none, objs_app, objs_app0]; done) | (simp only [keeps_cons, keeps_none, objs_app0, objs_app, and_true]; first | rfl | exact ⟨rfl, rfl⟩ | exact ⟨rfl, rfl, rfl⟩))) | (refine both_ways ?_ ?_) | (rw [wrap_i64 (by omega) (by omega)]) | (refine guardV_split (fun h => ?_) (fun h => ?_) <;> (try rw [h]) <;> (try simp at h) <;> (try (exfalso; omega))) | (refine refBytes_c ?_) | (refine refText_c (by simp [d.h]) ?_))
  exact ⟨Ext.app _ _, rfl, by simpa [AV.strip] using hK⟩
section
variable {σ : AST} {K : AV → AST → Prop} {tk : Tk}
theorem refInts2_c {a b : Int} (h : InI [a, b]) (hK : K (.str ([a, b].flatMap numS)) σ) : TCalls Try.prog 68 [.slice tk [.int .i64 a, .int .i64 b]] σ K := refInts_c (l := [a, b]) h (by simp) hK
theorem refInts3_c {a b c : Int} (h : InI [a, b, c]) (hK : K (.str ([a, b, c].flatMap numS)) σ) : TCalls Try.prog 68 [.slice tk [.int .i64 a, .int .i64 b, .int .i64 c]] σ K := refInts_c (l := [a, b, c]) h (by simp) hK
theorem refInts4_c {a b c d : Int} (h : InI [a, b, c, d]) (hK : K (.str ([a, b, c, d].flatMap numS)) σ) : TCalls Try.prog 68 [.slice tk [.int .i64 a, .int .i64 b, .int .i64 c, .int .i64 d]] σ K := refInts_c (l := [a, b, c, d]) h (by simp) hK
end
theorem InI.len {l : List Int} (h : InI l) : (l.flatMap numS).length ≤ l.length * 22 := by have := numsN h l.length; simpa using this
theorem digS_len (d : Dig) : (digS d).length ≤ 53 := textS_le (m := 32) (by simp [d.h]) (by omega)

theorem refAns_c {x : Rep} (hok : x.Ok) {tk : Tk} {σ : AST} {K : AV → AST → Prop} (hK : K (.str (ansB x)) σ) : TCalls Try.prog 71 [repV tk x] σ K := by
  obtain ⟨hp, h1, h2, h3, h4, h5, h6, h7, h8⟩ := hok
  simp only [In, ViewOk] at h1 h2 h5 h6 h7
  refine TCalls.drop ?_
  refine tcalls_walk Try.f71 _ [.tmp 2] Try.func71 rfl rfl rfl mixed (Nat.le_of_ble_eq_true rfl) rfl fun hlen => ?_
  have i1 : InI [x.num, x.last] := by (intro n hn; simp at hn; omega)
  have l1 := i1.len
  have l2 := textS_le (s := x.view) (m := 512) (by omega) (by omega)
  have l3 := digS_len x.commit
  have i4 : InI [(x.pending.length : Int)] := by (intro n hn; simp at hn; omega)
  have l4 := i4.len
  simp only [List.flatMap_cons, List.flatMap_nil, List.append_nil] at l4
  repeat' (first | (simp -dsimp only [↓reduceIte, go_sem]) | (refine arr_intro fun _ => ?_) | (refine later_intro ⟨keeps_nil, ?_⟩) | (refine later_intro ⟨keeps_refl, ?_⟩) | (with_reducible refine keeps_go ?_ ?_; focus (first | (simp [keeps_cons, keeps_none, objs_app, objs_app0]; done) | (simp only [keeps_cons, keeps_none, objs_app0, objs_app, and_true]; first | rfl | exact ⟨rfl, rfl⟩ | exact ⟨rfl, rfl, rfl⟩))) | (with_reducible refine (And.intro (a := keeps _ _ _) ?_ ?_); focus (first | (simp [keeps_cons, keeps_none, objs_app, objs_app0]; done) | (simp only [keeps_cons, keeps_none, objs_app0, objs_app, and_true]; first | rfl | exact ⟨rfl, rfl⟩ | exact ⟨rfl, rfl, rfl⟩))) | (refine both_ways ?_ ?_) | (rw [wrap_i64 (by omega) (by omega)]) | (refine guardV_split (fun h => ?_) (fun h => ?_) <;> (try rw [h]) <;> (try simp at h) <;> (try (exfalso; omega))) | (with_reducible refine awp_drawS (id := 1) [0, 1, 2, 3, 4, 6, 7, 10, 11, 14, 15, 16, 5, 8, 9, 12, 13, 17, 18, 19] (by kernel_rfl) ?_) | (refine bI2 ?_) | (refine refInts2_c i1 ?_) | (refine refText_c (by omega) ?_) | (refine refDig_c ?_) | (refine L01.Number_c (by omega) (by omega) ?_) | (with_reducible refine side_later (by (simp only [maxL, List.length_append, List.length_cons, List.length_nil] at *; omega)) ?_))
  have hz : ∀ i, ((x.pending.take i).flatMap pendB).length ≤ x.pending.length * 194 := fun i => flatN fun p hm => by
    have h1 := numsN (hp p hm).in_ 4
    have h2 := digs_take (l := [p.asked, p.proof]) (i := 2)
    simp at h1 h2
    simp [pendB]; omega
  generalize hys : [x.num, x.last].flatMap numS ++ textS x.view ++ digS x.commit ++ numS x.pending.length = ys
  have hy : ys.length ≤ 2000 := by rw [← hys]; (simp only [maxL, List.length_append, List.length_cons, List.length_nil] at *; omega)
  refine awp_rounds (fun (i : Nat) τ s => i ≤ x.pending.length ∧ Ext σ s ∧ s.objs[σ.objs.length]? = some (.cells (repV tk x)) ∧ τ 1 = .ptr (some (σ.objs.length, [])) ∧ τ 3 = .str (ys ++ (x.pending.take i).flatMap pendB) ∧ τ 4 = .int .i64 i) (fun i => x.pending.length - i) 0 ?_ ?_
  · refine ⟨by omega, Ext.app _ _, objs_app0, ?_, ?_, ?_⟩ <;> (try simp only [go_sem]) <;> (try rfl)
    rw [← hys]; simp
  · rintro i τ s ⟨hi, hx, ho, t1, t3, t4⟩
    have hzi := hz i
    have c := cellAt_known ho
    have hlt := (List.getElem?_eq_some_iff.1 ho).1
    simp -dsimp only [↓reduceIte, go_sem, t1, t3, t4, c]
    refine arr_intro fun _ => ?_
    simp -dsimp only [↓reduceIte, go_sem, t1, t3, t4, c]
    refine boolW_split (fun hb => ?_) (fun hb => ?_)
    · have hb : i < x.pending.length := by simp at hb; omega
      obtain ⟨y, hy, hm⟩ := get_of_lt hb
      have htk : (x.pending.take (i + 1)).flatMap pendB = (x.pending.take i).flatMap pendB ++ pendB y := by
        rw [List.take_add_one, hy]; simp
      have hq := (hp y hm).in_
      have m1 := hq.len
      have m2 := digS_len y.asked
      have m3 := digS_len y.proof
      repeat' (first | (simp -dsimp only [↓reduceIte, go_sem, t1, t3, t4, c]) | (refine arr_intro fun _ => ?_) | (refine later_intro ⟨keeps_nil, ?_⟩) | (refine later_intro ⟨keeps_refl, ?_⟩) | (with_reducible refine keeps_go ?_ ?_; focus (first | (simp [keeps_cons, keeps_none, objs_app, objs_app0]; done) | (simp only [keeps_cons, keeps_none, objs_app0, objs_app, and_true]; first | rfl | exact ⟨rfl, rfl⟩ | exact ⟨rfl, rfl, rfl⟩))) | (with_reducible refine (And.intro (a := keeps _ _ _) ?_ ?_); focus (first | (simp [keeps_cons, keeps_none, objs_app, objs_app0]; done) | (simp only [keeps_cons, keeps_none, objs_app0, objs_app, and_true]; first | rfl | exact ⟨rfl, rfl⟩ | exact ⟨rfl, rfl, rfl⟩))) | (refine both_ways ?_ ?_) | (rw [wrap_i64 (by omega) (by omega)]) | (refine guardV_split (fun h => ?_) (fun h => ?_) <;> (try rw [h]) <;> (try simp at h) <;> (try (exfalso; omega))) | (refine nth_get hy ?_) | (with_reducible refine awp_drawS (id := 6) [0, 1, 2, 3, 4, 5, 6, 7, 8, 9, 12, 13, 16, 17, 10, 11, 14, 15, 18, 19, 20] (by kernel_rfl) ?_) | (refine bI4 ?_) | (refine refInts4_c hq ?_) | (refine refDig_c ?_) | (with_reducible refine side_later (by (simp only [maxL, List.length_append, List.length_cons, List.length_nil] at *; omega)) ?_))
      refine later_intro ⟨i + 1, by omega, by omega, hx.trans (Ext.app _ _), objs_known_app ho _, ?_, ?_, ?_⟩ <;> (try simp only [go_sem, t1, t3, t4]) <;> (try rfl)
      rw [htk]; simp [pendB]
    · have hb : i = x.pending.length := by simp at hb; omega
      subst hb
      have i5 : InI [x.vnum] := by (intro n hn; simp at hn; omega)
      have l5 := i5.len
      simp only [List.flatMap_cons, List.flatMap_nil, List.append_nil] at l5
      have l6 := textS_le (s := x.value) (m := 256) (by omega) (by omega)
      have l7 := digS_len x.data
      have l8 := textS_le (s := x.seen) (m := 512) (by omega) (by omega)
      have l9 := digS_len x.seenTag
      repeat' (first | (simp -dsimp only [↓reduceIte, go_sem, t1, t3, t4, c]) | (refine arr_intro fun _ => ?_) | (refine later_intro ⟨keeps_nil, ?_⟩) | (refine later_intro ⟨keeps_refl, ?_⟩) | (with_reducible refine keeps_go ?_ ?_; focus (first | (simp [keeps_cons, keeps_none, objs_app, objs_app0]; done) | (simp only [keeps_cons, keeps_none, objs_app0, objs_app, and_true]; first | rfl | exact ⟨rfl, rfl⟩ | exact ⟨rfl, rfl, rfl⟩))) | (with_reducible refine (And.intro (a := keeps _ _ _) ?_ ?_); focus (first | (simp [keeps_cons, keeps_none, objs_app, objs_app0]; done) | (simp only [keeps_cons, keeps_none, objs_app0, objs_app, and_true]; first | rfl | exact ⟨rfl, rfl⟩ | exact ⟨rfl, rfl, rfl⟩))) | (refine both_ways ?_ ?_) | (rw [wrap_i64 (by omega) (by omega)]) | (refine guardV_split (fun h => ?_) (fun h => ?_) <;> (try rw [h]) <;> (try simp at h) <;> (try (exfalso; omega))) | (with_reducible refine awp_drawS (id := 7) [0, 1, 2, 5, 6, 9, 10, 13, 14, 17, 18, 3, 4, 7, 8, 11, 12, 15, 16, 19, 20, 21] (by kernel_rfl) ?_) | (refine refText_c (by omega) ?_) | (refine refDig_c ?_) | (refine L01.Number_c (by omega) (by omega) ?_) | (with_reducible refine side_later (by (simp only [maxL, List.length_append, List.length_cons, List.length_nil] at *; omega)) ?_))
      refine ⟨hx, rfl, ?_⟩
      rw [← hys]
      simpa [AV.strip, ansB] using hK
theorem ansB_len {x : Rep} (hok : x.Ok) : (ansB x).length ≤ 100000 := by
  obtain ⟨hp, h1, h2, h3, h4, h5, h6, h7, h8⟩ := hok
  simp only [In, ViewOk] at h1 h2 h5 h6 h7
  have hz : (x.pending.flatMap pendB).length ≤ x.pending.length * 194 := flat_len fun p hm => by
    have h1 := numsN (hp p hm).in_ 4
    have h2 := digs_take (l := [p.asked, p.proof]) (i := 2)
    simp at h1 h2
    simp [pendB]; omega
  have i1 : InI [x.num, x.last] := by (intro n hn; simp at hn; omega)
  have l1 := i1.len
  have l2 := textS_le (s := x.view) (m := 512) (by omega) (by omega)
  have l3 := digS_len x.commit
  have i4 : InI [(x.pending.length : Int)] := by (intro n hn; simp at hn; omega)
  have l4 := i4.len
  have i5 : InI [x.vnum] := by (intro n hn; simp at hn; omega)
  have l5 := i5.len
  have l6 := textS_le (s := x.value) (m := 256) (by omega) (by omega)
  have l7 := digS_len x.data
  have l8 := textS_le (s := x.seen) (m := 512) (by omega) (by omega)
  have l9 := digS_len x.seenTag
  simp only [List.length_cons, List.length_nil, List.flatMap_cons, List.flatMap_nil, List.append_nil, List.length_append] at *
  simp only [ansB, List.length_append, List.flatMap_cons, List.flatMap_nil, List.append_nil]
  omega
theorem numS2 : numS 2 = [50, 59] := by rw [numS, if_neg (by decide)]; rw [show (2 : Int).natAbs = 2 from rfl, dg_small (by decide)]; rfl
theorem lay_c {m : Msg} (hok : m.Ok) {t u : Tk} {σ : AST} {K : AV → AST → Prop} (hK : K (.str m.bytes) σ) : TCalls Try.prog 24 [msgV t u m] σ K := by
  refine TCalls.drop ?_
  have hkinds := hok.kinds
  obtain ⟨hf, hc, ho⟩ := hok
  simp only [In] at hc
  have hk1 : 1 ≤ m.kind ∧ m.kind ≤ 11 := by omega
  have i1 : InI [m.kind, m.client] := by (intro n hn; simp at hn; omega)
  have l1 := i1.len
  have n2 := numS2
  refine tcalls_walk Try.f24 _ [.tmp 2] Try.func24 rfl rfl rfl mixed (Nat.le_of_ble_eq_true rfl) rfl fun hlen => ?_
  simp -dsimp only [↓reduceIte, go_sem]
  refine bI2 ?_
  simp -dsimp only [↓reduceIte, go_sem]
  refine refInts2_c i1 ?_
  simp -dsimp only [↓reduceIte, go_sem]
  rcases hkinds with ⟨hq, hs⟩ | ⟨hq, hs⟩ | ⟨hq, hs⟩ | ⟨hq, hs⟩ | ⟨hq, hs⟩ | ⟨hq, hs⟩ | ⟨hq, hs⟩ | ⟨hq, hs⟩ | hq | ⟨hq, hs⟩ | hq
  · rw [hq] at l1
    obtain ⟨o1, o2, o3, o4⟩ := hs
    simp only [In] at o1 o2 o3
    have i2 : InI [m.sub.num, m.sub.kind, m.sub.target] := by (intro n hn; simp at hn; omega)
    have l2 := i2.len
    have l3 := textS_le (s := m.sub.value) (m := 256) (by omega) (by omega)
    have l4 := digS_len m.sub.asked
    have l5 := digS_len m.sub.data
    repeat' (first | (simp -dsimp only [↓reduceIte, go_sem, hq]) | (refine arr_intro fun _ => ?_) | (refine later_intro ⟨keeps_nil, ?_⟩) | (refine later_intro ⟨keeps_refl, ?_⟩) | (with_reducible refine keeps_go ?_ ?_; focus (first | (simp [keeps_cons, keeps_none, objs_app, objs_app0]; done) | (simp only [keeps_cons, keeps_none, objs_app0, objs_app, and_true]; first | rfl | exact ⟨rfl, rfl⟩ | exact ⟨rfl, rfl, rfl⟩))) | (with_reducible refine (And.intro (a := keeps _ _ _) ?_ ?_); focus (first | (simp [keeps_cons, keeps_none, objs_app, objs_app0]; done) | (simp only [keeps_cons, keeps_none, objs_app0, objs_app, and_true]; first | rfl | exact ⟨rfl, rfl⟩ | exact ⟨rfl, rfl, rfl⟩))) | (refine both_ways ?_ ?_) | (rw [wrap_i64 (by omega) (by omega)]) | (refine guardV_split (fun h => ?_) (fun h => ?_) <;> (try rw [h]) <;> (try simp at h) <;> (try (exfalso; omega))) | (with_reducible refine awp_drawS (id := 4) [0, 1, 2, 3, 4, 5, 6, 7, 8, 9, 10, 13, 14, 15, 18, 19, 20, 23, 24, 25, 11, 12, 16, 17, 21, 22, 26, 27, 28] (by kernel_rfl) ?_) | (refine bI1 ?_) | (refine bI2 ?_) | (refine bI3 ?_) | (refine refDig_c ?_) | (with_reducible refine side_later (by (simp only [maxL, List.length_append, List.length_cons, List.length_nil] at *; omega)) ?_) | (refine refInts3_c i2 ?_) | (refine refText_c (by omega) ?_))
    refine ⟨Ext.app _ _, rfl, ?_⟩
    simpa [AV.strip, Msg.bytes, Msg.rest, hq, subB, blobB, laidAll, part_all] using hK
  · rw [hq] at l1
    have l2 := ansB_len hs
    repeat' (first | (simp -dsimp only [↓reduceIte, go_sem, hq]) | (refine arr_intro fun _ => ?_) | (refine later_intro ⟨keeps_nil, ?_⟩) | (refine later_intro ⟨keeps_refl, ?_⟩) | (with_reducible refine keeps_go ?_ ?_; focus (first | (simp [keeps_cons, keeps_none, objs_app, objs_app0]; done) | (simp only [keeps_cons, keeps_none, objs_app0, objs_app, and_true]; first | rfl | exact ⟨rfl, rfl⟩ | exact ⟨rfl, rfl, rfl⟩))) | (with_reducible refine (And.intro (a := keeps _ _ _) ?_ ?_); focus (first | (simp [keeps_cons, keeps_none, objs_app, objs_app0]; done) | (simp only [keeps_cons, keeps_none, objs_app0, objs_app, and_true]; first | rfl | exact ⟨rfl, rfl⟩ | exact ⟨rfl, rfl, rfl⟩))) | (refine both_ways ?_ ?_) | (rw [wrap_i64 (by omega) (by omega)]) | (refine guardV_split (fun h => ?_) (fun h => ?_) <;> (try rw [h]) <;> (try simp at h) <;> (try (exfalso; omega))) | (refine bI1 ?_) | (refine bI2 ?_) | (refine bI3 ?_) | (refine refDig_c ?_) | (with_reducible refine side_later (by (simp only [maxL, List.length_append, List.length_cons, List.length_nil] at *; omega)) ?_) | (refine refAns_c hs ?_))
    refine ⟨Ext.app _ _, rfl, ?_⟩
    simpa [AV.strip, Msg.bytes, Msg.rest, hq, subB, blobB, n2] using hK
  · rw [hq] at l1
    obtain ⟨_, o1, o2, _⟩ := hs
    have l2 := textS_le (s := m.view) (m := 512) (by omega) (by omega)
    have l4 := digS_len m.tag
    repeat' (first | (simp -dsimp only [↓reduceIte, go_sem, hq]) | (refine arr_intro fun _ => ?_) | (refine later_intro ⟨keeps_nil, ?_⟩) | (refine later_intro ⟨keeps_refl, ?_⟩) | (with_reducible refine keeps_go ?_ ?_; focus (first | (simp [keeps_cons, keeps_none, objs_app, objs_app0]; done) | (simp only [keeps_cons, keeps_none, objs_app0, objs_app, and_true]; first | rfl | exact ⟨rfl, rfl⟩ | exact ⟨rfl, rfl, rfl⟩))) | (with_reducible refine (And.intro (a := keeps _ _ _) ?_ ?_); focus (first | (simp [keeps_cons, keeps_none, objs_app, objs_app0]; done) | (simp only [keeps_cons, keeps_none, objs_app0, objs_app, and_true]; first | rfl | exact ⟨rfl, rfl⟩ | exact ⟨rfl, rfl, rfl⟩))) | (refine both_ways ?_ ?_) | (rw [wrap_i64 (by omega) (by omega)]) | (refine guardV_split (fun h => ?_) (fun h => ?_) <;> (try rw [h]) <;> (try simp at h) <;> (try (exfalso; omega))) | (with_reducible refine awp_drawS (id := 8) [0, 1, 2, 5, 6, 3, 4, 7, 8, 9] (by kernel_rfl) ?_) | (refine bI1 ?_) | (refine bI2 ?_) | (refine bI3 ?_) | (refine refDig_c ?_) | (with_reducible refine side_later (by (simp only [maxL, List.length_append, List.length_cons, List.length_nil] at *; omega)) ?_) | (refine refText_c (by omega) ?_))
    refine ⟨Ext.app _ _, rfl, ?_⟩
    simpa [AV.strip, Msg.bytes, Msg.rest, hq, subB, blobB, laidAll, part_all] using hK
  · rw [hq] at l1
    obtain ⟨o1, o2, o3⟩ := hs
    simp only [In] at o1 o2
    have i2 : InI [m.blob.owner, m.blob.num] := by (intro n hn; simp at hn; omega)
    have l2 := i2.len
    have l3 := textS_le (s := m.blob.cipher) (m := 4096) (by omega) (by omega)
    have l4 := digS_len m.blob.tag
    have l6 := numS_len (n := m.kind) (by omega) (by omega)
    rw [hq] at l6
    repeat' (first | (simp -dsimp only [↓reduceIte, go_sem, hq]) | (refine arr_intro fun _ => ?_) | (refine later_intro ⟨keeps_nil, ?_⟩) | (refine later_intro ⟨keeps_refl, ?_⟩) | (with_reducible refine keeps_go ?_ ?_; focus (first | (simp [keeps_cons, keeps_none, objs_app, objs_app0]; done) | (simp only [keeps_cons, keeps_none, objs_app0, objs_app, and_true]; first | rfl | exact ⟨rfl, rfl⟩ | exact ⟨rfl, rfl, rfl⟩))) | (with_reducible refine (And.intro (a := keeps _ _ _) ?_ ?_); focus (first | (simp [keeps_cons, keeps_none, objs_app, objs_app0]; done) | (simp only [keeps_cons, keeps_none, objs_app0, objs_app, and_true]; first | rfl | exact ⟨rfl, rfl⟩ | exact ⟨rfl, rfl, rfl⟩))) | (refine both_ways ?_ ?_) | (rw [wrap_i64 (by omega) (by omega)]) | (refine guardV_split (fun h => ?_) (fun h => ?_) <;> (try rw [h]) <;> (try simp at h) <;> (try (exfalso; omega))) | (with_reducible refine awp_drawS (id := 11) [0, 1, 3, 4, 5, 6, 7, 8, 9, 12, 13, 14, 17, 18, 19, 2, 10, 11, 15, 16, 20, 21, 22] (by kernel_rfl) ?_) | (refine bI1 ?_) | (refine bI2 ?_) | (refine bI3 ?_) | (refine refDig_c ?_) | (with_reducible refine side_later (by (simp only [maxL, List.length_append, List.length_cons, List.length_nil] at *; omega)) ?_) | (refine L01.Number_c (by omega) (by omega) ?_) | (refine refInts2_c i2 ?_) | (refine refText_c (by omega) ?_))
    refine ⟨Ext.app _ _, rfl, ?_⟩
    simpa [AV.strip, Msg.bytes, Msg.rest, hq, subB, blobB, laidAll, part_all] using hK
  · rw [hq] at l1
    have i2 := hs.in_
    have l2 := i2.len
    have hs2 := hs.2
    simp only [In] at hs2
    repeat' (first | (simp -dsimp only [↓reduceIte, go_sem, hq]) | (refine arr_intro fun _ => ?_) | (refine later_intro ⟨keeps_nil, ?_⟩) | (refine later_intro ⟨keeps_refl, ?_⟩) | (with_reducible refine keeps_go ?_ ?_; focus (first | (simp [keeps_cons, keeps_none, objs_app, objs_app0]; done) | (simp only [keeps_cons, keeps_none, objs_app0, objs_app, and_true]; first | rfl | exact ⟨rfl, rfl⟩ | exact ⟨rfl, rfl, rfl⟩))) | (with_reducible refine (And.intro (a := keeps _ _ _) ?_ ?_); focus (first | (simp [keeps_cons, keeps_none, objs_app, objs_app0]; done) | (simp only [keeps_cons, keeps_none, objs_app0, objs_app, and_true]; first | rfl | exact ⟨rfl, rfl⟩ | exact ⟨rfl, rfl, rfl⟩))) | (refine both_ways ?_ ?_) | (rw [wrap_i64 (by omega) (by omega)]) | (refine guardV_split (fun h => ?_) (fun h => ?_) <;> (try rw [h]) <;> (try simp at h) <;> (try (exfalso; omega))) | (refine bI1 ?_) | (refine bI2 ?_) | (refine bI3 ?_) | (refine refDig_c ?_) | (with_reducible refine side_later (by (simp only [maxL, List.length_append, List.length_cons, List.length_nil] at *; omega)) ?_) | (refine refInts_c hs.in_ (by omega) ?_))
    refine ⟨Ext.app _ _, rfl, ?_⟩
    simpa [AV.strip, Msg.bytes, Msg.rest, hq, subB, blobB, laidAll, part_all] using hK
  · rw [hq] at l1
    obtain ⟨o1, o2, o3⟩ := hs
    simp only [In] at o1 o2
    have i2 : InI [m.blob.owner, m.blob.num] := by (intro n hn; simp at hn; omega)
    have l2 := i2.len
    have l3 := textS_le (s := m.blob.cipher) (m := 4096) (by omega) (by omega)
    have l4 := digS_len m.blob.tag
    have l6 := numS_len (n := m.kind) (by omega) (by omega)
    rw [hq] at l6
    repeat' (first | (simp -dsimp only [↓reduceIte, go_sem, hq]) | (refine arr_intro fun _ => ?_) | (refine later_intro ⟨keeps_nil, ?_⟩) | (refine later_intro ⟨keeps_refl, ?_⟩) | (with_reducible refine keeps_go ?_ ?_; focus (first | (simp [keeps_cons, keeps_none, objs_app, objs_app0]; done) | (simp only [keeps_cons, keeps_none, objs_app0, objs_app, and_true]; first | rfl | exact ⟨rfl, rfl⟩ | exact ⟨rfl, rfl, rfl⟩))) | (with_reducible refine (And.intro (a := keeps _ _ _) ?_ ?_); focus (first | (simp [keeps_cons, keeps_none, objs_app, objs_app0]; done) | (simp only [keeps_cons, keeps_none, objs_app0, objs_app, and_true]; first | rfl | exact ⟨rfl, rfl⟩ | exact ⟨rfl, rfl, rfl⟩))) | (refine both_ways ?_ ?_) | (rw [wrap_i64 (by omega) (by omega)]) | (refine guardV_split (fun h => ?_) (fun h => ?_) <;> (try rw [h]) <;> (try simp at h) <;> (try (exfalso; omega))) | (with_reducible refine awp_drawS (id := 11) [0, 1, 3, 4, 5, 6, 7, 8, 9, 12, 13, 14, 17, 18, 19, 2, 10, 11, 15, 16, 20, 21, 22] (by kernel_rfl) ?_) | (refine bI1 ?_) | (refine bI2 ?_) | (refine bI3 ?_) | (refine refDig_c ?_) | (with_reducible refine side_later (by (simp only [maxL, List.length_append, List.length_cons, List.length_nil] at *; omega)) ?_) | (refine L01.Number_c (by omega) (by omega) ?_) | (refine refInts2_c i2 ?_) | (refine refText_c (by omega) ?_))
    refine ⟨Ext.app _ _, rfl, ?_⟩
    simpa [AV.strip, Msg.bytes, Msg.rest, hq, subB, blobB, laidAll, part_all] using hK
  · rw [hq] at l1
    have i2 := hs.in_
    have l2 := i2.len
    have hs2 := hs.2
    simp only [In] at hs2
    repeat' (first | (simp -dsimp only [↓reduceIte, go_sem, hq]) | (refine arr_intro fun _ => ?_) | (refine later_intro ⟨keeps_nil, ?_⟩) | (refine later_intro ⟨keeps_refl, ?_⟩) | (with_reducible refine keeps_go ?_ ?_; focus (first | (simp [keeps_cons, keeps_none, objs_app, objs_app0]; done) | (simp only [keeps_cons, keeps_none, objs_app0, objs_app, and_true]; first | rfl | exact ⟨rfl, rfl⟩ | exact ⟨rfl, rfl, rfl⟩))) | (with_reducible refine (And.intro (a := keeps _ _ _) ?_ ?_); focus (first | (simp [keeps_cons, keeps_none, objs_app, objs_app0]; done) | (simp only [keeps_cons, keeps_none, objs_app0, objs_app, and_true]; first | rfl | exact ⟨rfl, rfl⟩ | exact ⟨rfl, rfl, rfl⟩))) | (refine both_ways ?_ ?_) | (rw [wrap_i64 (by omega) (by omega)]) | (refine guardV_split (fun h => ?_) (fun h => ?_) <;> (try rw [h]) <;> (try simp at h) <;> (try (exfalso; omega))) | (refine bI1 ?_) | (refine bI2 ?_) | (refine bI3 ?_) | (refine refDig_c ?_) | (with_reducible refine side_later (by (simp only [maxL, List.length_append, List.length_cons, List.length_nil] at *; omega)) ?_) | (refine refInts_c hs.in_ (by omega) ?_))
    refine ⟨Ext.app _ _, rfl, ?_⟩
    simpa [AV.strip, Msg.bytes, Msg.rest, hq, subB, blobB, laidAll, part_all] using hK
  · rw [hq] at l1
    have i2 := hs.in_
    have l2 := i2.len
    have hs2 := hs.2
    simp only [In] at hs2
    repeat' (first | (simp -dsimp only [↓reduceIte, go_sem, hq]) | (refine arr_intro fun _ => ?_) | (refine later_intro ⟨keeps_nil, ?_⟩) | (refine later_intro ⟨keeps_refl, ?_⟩) | (with_reducible refine keeps_go ?_ ?_; focus (first | (simp [keeps_cons, keeps_none, objs_app, objs_app0]; done) | (simp only [keeps_cons, keeps_none, objs_app0, objs_app, and_true]; first | rfl | exact ⟨rfl, rfl⟩ | exact ⟨rfl, rfl, rfl⟩))) | (with_reducible refine (And.intro (a := keeps _ _ _) ?_ ?_); focus (first | (simp [keeps_cons, keeps_none, objs_app, objs_app0]; done) | (simp only [keeps_cons, keeps_none, objs_app0, objs_app, and_true]; first | rfl | exact ⟨rfl, rfl⟩ | exact ⟨rfl, rfl, rfl⟩))) | (refine both_ways ?_ ?_) | (rw [wrap_i64 (by omega) (by omega)]) | (refine guardV_split (fun h => ?_) (fun h => ?_) <;> (try rw [h]) <;> (try simp at h) <;> (try (exfalso; omega))) | (refine bI1 ?_) | (refine bI2 ?_) | (refine bI3 ?_) | (refine refDig_c ?_) | (with_reducible refine side_later (by (simp only [maxL, List.length_append, List.length_cons, List.length_nil] at *; omega)) ?_) | (refine refInts_c hs.in_ (by omega) ?_))
    refine ⟨Ext.app _ _, rfl, ?_⟩
    simpa [AV.strip, Msg.bytes, Msg.rest, hq, subB, blobB, laidAll, part_all] using hK
  · rw [hq] at l1
    repeat' (first | (simp -dsimp only [↓reduceIte, go_sem, hq]) | (refine arr_intro fun _ => ?_) | (refine later_intro ⟨keeps_nil, ?_⟩) | (refine later_intro ⟨keeps_refl, ?_⟩) | (with_reducible refine keeps_go ?_ ?_; focus (first | (simp [keeps_cons, keeps_none, objs_app, objs_app0]; done) | (simp only [keeps_cons, keeps_none, objs_app0, objs_app, and_true]; first | rfl | exact ⟨rfl, rfl⟩ | exact ⟨rfl, rfl, rfl⟩))) | (with_reducible refine (And.intro (a := keeps _ _ _) ?_ ?_); focus (first | (simp [keeps_cons, keeps_none, objs_app, objs_app0]; done) | (simp only [keeps_cons, keeps_none, objs_app0, objs_app, and_true]; first | rfl | exact ⟨rfl, rfl⟩ | exact ⟨rfl, rfl, rfl⟩))) | (refine both_ways ?_ ?_) | (rw [wrap_i64 (by omega) (by omega)]) | (refine guardV_split (fun h => ?_) (fun h => ?_) <;> (try rw [h]) <;> (try simp at h) <;> (try (exfalso; omega))) | (refine bI1 ?_) | (refine bI2 ?_) | (refine bI3 ?_) | (refine refDig_c ?_) | (with_reducible refine side_later (by (simp only [maxL, List.length_append, List.length_cons, List.length_nil] at *; omega)) ?_))
    refine ⟨Ext.app _ _, rfl, ?_⟩
    simpa [AV.strip, Msg.bytes, Msg.rest, hq, subB, blobB, laidAll, part_all] using hK
  · rw [hq] at l1
    obtain ⟨o0, _, o1, o2, _⟩ := hs
    simp only [In] at o0
    have l2 := textS_le (s := m.view) (m := 512) (by omega) (by omega)
    have l4 := digS_len m.tag
    have l6 := numS_len (n := m.by_) (by omega) (by omega)
    have l7 := digS_len m.own
    repeat' (first | (simp -dsimp only [↓reduceIte, go_sem, hq]) | (refine arr_intro fun _ => ?_) | (refine later_intro ⟨keeps_nil, ?_⟩) | (refine later_intro ⟨keeps_refl, ?_⟩) | (with_reducible refine keeps_go ?_ ?_; focus (first | (simp [keeps_cons, keeps_none, objs_app, objs_app0]; done) | (simp only [keeps_cons, keeps_none, objs_app0, objs_app, and_true]; first | rfl | exact ⟨rfl, rfl⟩ | exact ⟨rfl, rfl, rfl⟩))) | (with_reducible refine (And.intro (a := keeps _ _ _) ?_ ?_); focus (first | (simp [keeps_cons, keeps_none, objs_app, objs_app0]; done) | (simp only [keeps_cons, keeps_none, objs_app0, objs_app, and_true]; first | rfl | exact ⟨rfl, rfl⟩ | exact ⟨rfl, rfl, rfl⟩))) | (refine both_ways ?_ ?_) | (rw [wrap_i64 (by omega) (by omega)]) | (refine guardV_split (fun h => ?_) (fun h => ?_) <;> (try rw [h]) <;> (try simp at h) <;> (try (exfalso; omega))) | (with_reducible refine awp_drawS (id := 17) [0, 1, 2, 5, 6, 9, 10, 13, 14, 3, 4, 7, 8, 11, 12, 15, 16, 17] (by kernel_rfl) ?_) | (refine bI1 ?_) | (refine bI2 ?_) | (refine bI3 ?_) | (refine refDig_c ?_) | (with_reducible refine side_later (by (simp only [maxL, List.length_append, List.length_cons, List.length_nil] at *; omega)) ?_) | (refine L01.Number_c (by omega) (by omega) ?_) | (refine refText_c (by omega) ?_))
    refine ⟨Ext.app _ _, rfl, ?_⟩
    simpa [AV.strip, Msg.bytes, Msg.rest, hq, subB, blobB, laidAll, part_all] using hK
  · rw [hq] at l1
    have l7 := digS_len m.own
    repeat' (first | (simp -dsimp only [↓reduceIte, go_sem, hq]) | (refine arr_intro fun _ => ?_) | (refine later_intro ⟨keeps_nil, ?_⟩) | (refine later_intro ⟨keeps_refl, ?_⟩) | (with_reducible refine keeps_go ?_ ?_; focus (first | (simp [keeps_cons, keeps_none, objs_app, objs_app0]; done) | (simp only [keeps_cons, keeps_none, objs_app0, objs_app, and_true]; first | rfl | exact ⟨rfl, rfl⟩ | exact ⟨rfl, rfl, rfl⟩))) | (with_reducible refine (And.intro (a := keeps _ _ _) ?_ ?_); focus (first | (simp [keeps_cons, keeps_none, objs_app, objs_app0]; done) | (simp only [keeps_cons, keeps_none, objs_app0, objs_app, and_true]; first | rfl | exact ⟨rfl, rfl⟩ | exact ⟨rfl, rfl, rfl⟩))) | (refine both_ways ?_ ?_) | (rw [wrap_i64 (by omega) (by omega)]) | (refine guardV_split (fun h => ?_) (fun h => ?_) <;> (try rw [h]) <;> (try simp at h) <;> (try (exfalso; omega))) | (refine bI1 ?_) | (refine bI2 ?_) | (refine bI3 ?_) | (refine refDig_c ?_) | (with_reducible refine side_later (by (simp only [maxL, List.length_append, List.length_cons, List.length_nil] at *; omega)) ?_))
    refine ⟨Ext.app _ _, rfl, ?_⟩
    simpa [AV.strip, Msg.bytes, Msg.rest, hq, subB, blobB, laidAll, part_all] using hK
theorem appc {α : Type} {a : α} {l m : List α} : List.append (a :: l) m = a :: List.append l m := rfl
theorem appn {α : Type} {m : List α} : List.append [] m = m := rfl
attribute [local go_sem] bin_bool_ne appc appn

theorem msgSet_9n {m : Msg} {t u v : Tk} : (msgPs t u m).set 9 (.slice v []) = msgPs t v { m with nums := [] } := rfl
attribute [local go_sem] bin_bool_ne appc appn msgSet_9n

def Msg.head (m : Msg) : Msg := { msg0 with kind := m.kind, client := m.client }
end Go.Aff.L10

