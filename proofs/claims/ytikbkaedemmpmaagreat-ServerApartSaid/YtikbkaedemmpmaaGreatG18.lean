import Derived.Test.YtikbkaedemmpmaaGreatG17
import Derived.Shelf.Sort.Plain
import Derived.Shelf.Slices.In.SortNone
import Derived.Test.YtikbkaedemmpmaaGreatProg
import Derived.Test.YtikbkaedemmpmaaGreatG7
import Derived.Sort.Grow
import Derived.Test.YtikbkaedemmpmaaGreatG16

set_option linter.unusedSimpArgs false
set_option linter.unusedVariables false

namespace Go.Aff.L10
open Go.Proofs Go.Aff Go.Aff.L01 Classical
set_option maxRecDepth 20000
attribute [-go_sem] cellAt_new
attribute [-simp] List.length_flatMap
attribute [local go_sem] Tryz.underlying40 sizes_sub fits_sub sizes_rep shapes_rep fits_rep zero_rep zt_rep blobPs_0 blobAt_0 sizes_blob shapes_blob fits_blob Tryz.underlying39 msgPs_0 msgAt_0 msgSet_0 msgPs_1 msgAt_1 msgSet_1 msgPs_2 msgAt_2 msgPs_3 msgAt_3 msgSet_3 msgPs_4 msgAt_4 msgPs_6 msgAt_6 msgPs_8 msgAt_8 msgSet_8 msgPs_9 msgAt_9 sizes_msg shapes_msg fits_msg zero_msg zt_msg built_msg Tryz.underlying42
attribute [local go_sem] fits3 fits9 fits23 fits31
attribute [local go_sem] fits28p srvPs_0 srvPs_1 srvPs_2 srvAt_0 srvAt_1 srvAt_2 Tryz.underlying68 Tryz.underlying23
attribute [local go_sem] fits23r arrV_none arrV_some
attribute [local go_sem] Tryz.underlying74 fits74b rstPs_0 rstAt_0 Tryz.underlying76
attribute [local go_sem] rfPs_0 rfPs_1 rfAt_0 rfAt_1 fits71p fits73p Tryz.underlying78
structure Gr2 (σ s : AST) (a b : Tk) (n m : Nat) (e f : Nat) : Prop where
  x : Ext σ s
  ta : tkNew σ a
  tb : tkNew σ b
  ap : apart a b
  ca : canApp s a n e
  cb : canApp s b m f
theorem Gr2.start {σ : AST} {e f : Nat} : Gr2 σ σ .full .full 0 0 e f := ⟨Ext.refl _, .inl rfl, .inl rfl, apart_full, trivial, trivial⟩
theorem Gr2.symm {σ s : AST} {a b : Tk} {n m e f : Nat} (h : Gr2 σ s a b n m e f) : Gr2 σ s b a m n f e := ⟨h.x, h.tb, h.ta, h.ap.symm, h.cb, h.ca⟩
theorem Gr2.growA {σ s : AST} {a b : Tk} {n m e f k : Nat} (h : Gr2 σ s a b n m e f) : Gr2 σ (growS s a k e) (growT s a) b k m e f :=
  ⟨h.x.grow h.ta, h.ta.grow h.x, h.tb, apart_grow h.ap h.cb, canApp_grow h.ca, canApp_apart h.ap h.cb⟩
theorem Gr2.growB {σ s : AST} {a b : Tk} {n m e f k : Nat} (h : Gr2 σ s a b n m e f) : Gr2 σ (growS s b k f) a (growT s b) n k e f := h.symm.growA.symm
section
variable {σ0 s : AST} {A : Ads} {n : Int} {M N : Reg} {B C : List Blob} {F : List (Nat × AObj)} {c : Int} {b : List UInt8} {K : AV → AST → Prop}
theorem bgot_at {C : List Blob} {o n : Int} : (bgot C o n = none ∧ batI C o n = -1) ∨ ∃ (i : Nat) (x : Blob), bgot C o n = some x ∧ batI C o n = i ∧ C[i]? = some x := by
  unfold bgot batI
  cases hf : bfind C o n with
  | none => exact .inl ⟨rfl, rfl⟩
  | some i =>
    obtain ⟨x, hx, _⟩ := bfind_some hf
    exact .inr ⟨i, x, hx, rfl, hx⟩
theorem refGet13_c (h : Sv σ0 s A n M N B C F) (hC : BOk C) {m : Msg} {t u : Tk} (hl : m.nums.length ≤ 900)
    (hK : ∀ s' tk (L' : List (Tk × Tk × Msg)), L'.map (·.2.2) = lettersM C m → Ext s s' → K (.slice tk (L'.map msgX)) s') :
    TCalls Tryz.prog 41 [.ptr (some (A.x, [])), msgV t u m] s K := by
  have h1 := h.box (.cells (msgV t u m))
  generalize hs1 : s.app [.cells (msgV t u m)] = s1 at h1
  have hx1 : Ext s s1 := hs1 ▸ Ext.app _ _
  have b0 := (h1.f _ (List.mem_cons_self ..)).2
  dsimp only at b0
  have hClen := hC.len
  refine tcalls_walk Tryz.f41 _ [.tmp 4] Tryz.func41 rfl rfl rfl mixed (Nat.le_of_ble_eq_true rfl) rfl fun hlen => ?_
  repeat' (simp -dsimp only [↓reduceIte, go_sem, hs1])
  refine awp_rounds (fun (i : Nat) τ s' => ∃ tf tn, i ≤ m.nums.length ∧ Gr2 s1 s' tf tn (foundL C m.client (m.nums.take i)).length (noneL C m.client (m.nums.take i)).length 275 1 ∧ τ 0 = .ptr (some (A.x, [])) ∧ τ 3 = .ptr (some (s.objs.length, [])) ∧
    τ 5 = .slice tf ((foundL C m.client (m.nums.take i)).map msgX) ∧ τ 6 = .slice tn ((noneL C m.client (m.nums.take i)).map (AV.int .i64)) ∧ τ 7 = .int .i64 i) (fun i => m.nums.length - i) 0 ?_ ?_
  · refine ⟨.full, .full, by omega, Gr2.start, ?_, ?_, ?_, ?_, ?_⟩ <;> (try simp only [go_sem]) <;> (try rfl)
  · rintro i τ s' ⟨tf, tn, hi, hG, t0, t3, t5, t6, t7⟩
    have h2 := h1.ext hG.x
    have cx := cellAt_known h2.x
    have b1 := (h2.f _ (List.mem_cons_self ..)).2
    dsimp only at b1
    have cb1 := cellAt_known b1
    have hfl := foundL_len (B := C) (c := m.client) (l := m.nums.take i)
    rw [List.length_take] at hfl
    by_cases hlt : i < m.nums.length
    · have hlt1 : (i : Int) < m.nums.length := by omega
      obtain ⟨k, hk⟩ : ∃ k, m.nums[i]? = some k := ⟨_, List.getElem?_eq_getElem hlt⟩
      have hnx := foundL_next (B := C) (c := m.client) hk
      have w1 : IntKind.i64.wrap ((i : Int) + 1) = (i : Int) + 1 := wrap_i64 (by omega) (by omega)
      repeat' (first | (simp -dsimp only [↓reduceIte, go_sem, cx, cb1, t0, t3, t5, t6, t7, hlt1]) | (refine arr_intro fun _ => ?_) | (with_reducible refine awp_drawT (id := 6) (.op 0 2 (.op 1 2 (.op 2 2 (.op 3 2 (.op 4 2 (.op 5 2 (.op 6 2 (.op 7 2 (.op 8 2 (.op 9 2 (.op 10 2 (.op 11 1 (.op 12 2 .nil))))))))))))) (by kernel_rfl) ?_) | (refine nth_get hk ?_) | fail)
      refine rat_c h2.t.q hC ?_
      rcases bgot_at (C := C) (o := m.client) (n := k) with ⟨e1, e2⟩ | ⟨p, x, e1, e2, e3⟩
      · rw [e2]
        simp only [e1, List.append_nil] at hnx
        repeat' (first | (simp -dsimp only [↓reduceIte, go_sem, cx, cb1, t0, t3, t5, t6, t7, w1]) | (refine later_intro ⟨keeps_nil, ?_⟩) | (refine nth_get hk ?_) | (refine build_slice E45i rfl (by decide) (by intro v hv; simp at hv; subst hv; simp [go_sem]) ?_) | (refine append_num hG.cb (by omega) ?_) | fail)
        refine later_intro ⟨i + 1, by omega, tf, growT s' tn, by omega, ?_, ?_, ?_, ?_, ?_, ?_⟩ <;> (try simp only [go_sem, t0, t3, t5, t6, t7, hnx]) <;> (try rfl)
        rw [List.length_append]
        exact hG.growB
      · rw [e2]
        simp only [e1, List.append_nil] at hnx
        have hp : (p : Int) ≥ 0 := by omega
        obtain ⟨tb, ob⟩ := h2.t.q.o
        have cob := cellAt_known ob
        have hfm : ({ kind := 6, client := msg0.client, sub := msg0.sub, rep := msg0.rep, view := msg0.view, by_ := msg0.by_, tag := msg0.tag, own := msg0.own, blob := x, nums := msg0.nums } : Msg) = foundM x := rfl
        repeat' (first | (simp -dsimp only [↓reduceIte, go_sem, cx, cob, cb1, t0, t3, t5, t6, t7, w1, hp, hfm]) | (refine later_intro ⟨keeps_nil, ?_⟩) | (refine nth_get e3 ?_) | (refine build_slice E76 rfl (by decide) (by intro v hv; simp at hv; subst hv; simp [go_sem]) ?_) | (refine append_msg hG.ca (by omega) ?_) | fail)
        refine later_intro ⟨i + 1, by omega, growT s' tf, tn, by omega, ?_, ?_, ?_, ?_, ?_, ?_⟩ <;> (try simp only [go_sem, t0, t3, t5, t6, t7, hnx]) <;> (try rfl)
        rw [List.length_append]
        exact hG.growA
    · obtain rfl : i = m.nums.length := by omega
      have hlt1 : ¬ ((m.nums.length : Nat) : Int) < m.nums.length := by omega
      rw [List.take_length] at t5 t6 hG hfl
      by_cases hn0 : noneL C m.client m.nums = []
      · have hn1 : ¬ ((noneL C m.client m.nums).length : Int) > 0 := by rw [hn0]; simp
        repeat' (first | (simp -dsimp only [↓reduceIte, go_sem, cx, cb1, t0, t3, t5, t6, t7, hlt1, hn1]) | (refine arr_intro fun _ => ?_) | fail)
        exact hK _ _ _ (by unfold lettersM; rw [if_pos hn0]; simp) (hx1.trans hG.x)
      · have hn1 : ((noneL C m.client m.nums).length : Int) > 0 := by have := List.length_pos_iff.2 hn0; omega
        have hfN : (msgPs Tk.full Tk.full ({ kind := 7, client := m.client, sub := msg0.sub, rep := msg0.rep, view := msg0.view, by_ := msg0.by_, tag := msg0.tag, own := msg0.own, blob := msg0.blob, nums := msg0.nums } : Msg)).set 9 (.slice tn ((noneL C m.client m.nums).map (AV.int .i64))) = msgPs Tk.full tn (noneM m.client (noneL C m.client m.nums)) := rfl
        repeat' (first | (simp -dsimp only [↓reduceIte, go_sem, cx, cb1, t0, t3, t5, t6, t7, hlt1, hn1, hfN]) | (refine arr_intro fun _ => ?_) | (refine build_slice E76 rfl (by decide) (by intro v hv; simp at hv; subst hv; simp [go_sem]) ?_) | (refine append_msg hG.ca (by omega) ?_) | fail)
        exact hK _ _ _ (by unfold lettersM; rw [if_neg hn0]; simp) (hx1.trans hG.growA.x)
end
section
variable {σ0 s : AST} {A : Ads} {n : Int} {M N : Reg} {B C : List Blob} {F : List (Nat × AObj)} {c : Int} {b : List UInt8} {K : AV → AST → Prop}
theorem Sv.qf (h : Sv σ0 s A n M N B C F) : QF σ0 s A.k A.i1 A.i2 A.i3 A.i4 N.rm [] := h.r.q
theorem refOn_c (h : Sv σ0 s A n M N B C F) (hN : N.Ok) (hC : BOk C)
    (hK : ∀ s' tk (L' : List (Tk × Tk × Msg)), L'.map (·.2.2) = onL N C c b → Sv σ0 s' A n M (onR N c b) B (onB N C c b) F → K (.slice tk (L'.map msgX)) s') :
    TCalls Tryz.prog 13 [.ptr (some (A.x, [])), .int .i64 c, .str b] s K := by
  have hx0 := h.x
  have none_ : ∀ s' F', Sv σ0 s' A n M N B C (F' ++ F) → onR N c b = N ∧ onB N C c b = C ∧ onL N C c b = [] → K (.slice .full []) s' := fun s' F' hs e => by
    have := hK s' .full [] (by rw [e.2.2]; rfl)
    rw [e.1, e.2.1] at this
    exact this (hs.sub fun y hy => List.mem_append_right _ hy)
  have h1 := fun t u => h.box (.cells (msgV t u (getR b).1))
  generalize hsr : s.app = sap at h1
  have hdc := fun (hh : heard N c b) => hh
  by_cases he : (getR b).2 = 0
  rotate_left
  · have hd : ¬ heard N c b := fun e => he e.2
    refine tcalls_walk Tryz.f13 _ [.tmp 6] Tryz.func13 rfl rfl rfl mixed (Nat.le_of_ble_eq_true rfl) rfl fun hlen => ?_
    repeat' (simp -dsimp only [↓reduceIte, go_sem])
    refine refGet_c fun t u => ?_
    have hS := h1 t u
    subst hsr
    generalize getR b = R at *
    have cx := cellAt_known hS.x
    repeat' (first | (simp -dsimp only [↓reduceIte, go_sem, he, cx]) | (refine guardV_split (fun h => ?_) (fun h => ?_) <;> (try rw [h]) <;> (try simp at h) <;> (try (exfalso; omega))) | fail)
    all_goals exact none_ _ [_] hS (on_deaf hd)
  by_cases hi : N.has c
  rotate_left
  · have hd : ¬ heard N c b := fun e => hi e.1
    have hi' : (0 ≤ c ∧ c < N.rm.n) = False := eq_false hi
    refine tcalls_walk Tryz.f13 _ [.tmp 6] Tryz.func13 rfl rfl rfl mixed (Nat.le_of_ble_eq_true rfl) rfl fun hlen => ?_
    repeat' (simp -dsimp only [↓reduceIte, go_sem])
    refine refGet_c fun t u => ?_
    have hS := h1 t u
    subst hsr
    generalize getR b = R at *
    have cx := cellAt_known hS.x
    repeat' (first | (simp -dsimp only [↓reduceIte, go_sem, he, cx, hi']) | ((refine refIs_c hS.qf ?_)) | fail)
    all_goals first
      | exact none_ _ [_] hS (on_deaf hd)
      | (refine absurd ?_ hi; assumption)
  have hd : heard N c b := ⟨hi, he⟩
  have hi0 : 0 ≤ c := hi.1
  have hi1 : c < N.rm.n := hi.2
  by_cases hk5 : (getR b).1.kind = 5
  · obtain ⟨e1, e2, e3⟩ := on_kind5 (B := C) hd hk5
    rw [e1, e2, e3] at hK
    have hl : (getR b).1.nums.length ≤ 900 := by have := (nums_le he (.inl hk5)).2.2; omega
    refine tcalls_walk Tryz.f13 _ [.tmp 6] Tryz.func13 rfl rfl rfl mixed (Nat.le_of_ble_eq_true rfl) rfl fun hlen => ?_
    repeat' (simp -dsimp only [↓reduceIte, go_sem])
    refine refGet_c fun t u => ?_
    have hS := h1 t u
    subst hsr
    generalize getR b = R at *
    have cx := cellAt_known hS.x
    repeat' (first | (simp -dsimp only [↓reduceIte, go_sem, he, cx, hi0, hi1, hk5]) | ((refine refIs_c hS.qf ?_)) | fail)
    refine refGet13_c hS hC hl fun s3 tk L' hL hx => ?_
    repeat' (simp -dsimp only [↓reduceIte, go_sem])
    exact hK _ _ _ hL (hS.ext hx).less
  by_cases hk3 : (getR b).1.kind = 3
  · by_cases hc : (getR b).1.client = c
    · obtain ⟨e1, e2, e3⟩ := on_kind3 (B := C) hd hk3 hc
      rw [e1, e2, e3] at hK
      refine tcalls_walk Tryz.f13 _ [.tmp 6] Tryz.func13 rfl rfl rfl mixed (Nat.le_of_ble_eq_true rfl) rfl fun hlen => ?_
      repeat' (simp -dsimp only [↓reduceIte, go_sem])
      refine refGet_c fun t u => ?_
      have hS := h1 t u
      subst hsr
      generalize getR b = R at *
      have cx := cellAt_known hS.x
      have hcb : (R.1.client == c) = true := by simp [hc]
      repeat' (first | (simp -dsimp only [↓reduceIte, go_sem, he, cx, hi0, hi1, hk3, hcb]) | ((refine refIs_c hS.qf ?_)) | (with_reducible refine awp_drawT (id := 14) (.op 0 2 (.op 1 2 (.op 2 2 (.op 3 2 (.op 4 2 (.op 5 2 (.op 6 2 (.op 7 2 (.op 8 2 (.op 9 1 .nil)))))))))) (by kernel_rfl) ?_) | fail)
      refine vRCommit_c hS hN fun s3 h3 => ?_
      repeat' (first | (simp -dsimp only [↓reduceIte, go_sem]) | (refine later_intro ⟨keeps_nil, ?_⟩) | fail)
      exact hK _ .full [] rfl h3.less
    · have hr := on_rest (M := N) (B := C) (c := c) (b := b) (by omega) (by omega) (by omega) (by omega) hk5
      refine tcalls_walk Tryz.f13 _ [.tmp 6] Tryz.func13 rfl rfl rfl mixed (Nat.le_of_ble_eq_true rfl) rfl fun hlen => ?_
      repeat' (simp -dsimp only [↓reduceIte, go_sem])
      refine refGet_c fun t u => ?_
      have hS := h1 t u
      subst hsr
      generalize getR b = R at *
      have cx := cellAt_known hS.x
      have hcb : (R.1.client == c) = false := by simp [hc]
      repeat' (first | (simp -dsimp only [↓reduceIte, go_sem, he, cx, hi0, hi1, hk3, hcb]) | ((refine refIs_c hS.qf ?_)) | fail)
      exact none_ _ [_] hS hr
  by_cases hk4 : (getR b).1.kind = 4
  · by_cases hc : (getR b).1.blob.owner = c
    · obtain ⟨e1, e2, e3⟩ := on_kind4 (B := C) hd hk4 hc
      rw [e1, e2, e3] at hK
      refine tcalls_walk Tryz.f13 _ [.tmp 6] Tryz.func13 rfl rfl rfl mixed (Nat.le_of_ble_eq_true rfl) rfl fun hlen => ?_
      repeat' (simp -dsimp only [↓reduceIte, go_sem])
      refine refGet_c fun t u => ?_
      have hS := h1 t u
      subst hsr
      generalize getR b = R at *
      have cx := cellAt_known hS.x
      have hcb : (R.1.blob.owner == c) = true := by simp [hc]
      repeat' (first | (simp -dsimp only [↓reduceIte, go_sem, he, cx, hi0, hi1, hk4, hcb]) | ((refine refIs_c hS.qf ?_)) | (with_reducible refine awp_drawT (id := 17) (.op 0 2 (.op 1 2 (.op 2 2 (.op 3 2 (.op 4 2 (.op 5 2 (.op 6 1 .nil))))))) (by kernel_rfl) ?_) | fail)
      refine vRPut_c hS hC fun s3 h3 => ?_
      repeat' (first | (simp -dsimp only [↓reduceIte, go_sem]) | (refine later_intro ⟨keeps_nil, ?_⟩) | fail)
      exact hK _ .full [] rfl h3.less
    · have hr := on_rest (M := N) (B := C) (c := c) (b := b) (by omega) (by omega) (by omega) (by omega) hk5
      refine tcalls_walk Tryz.f13 _ [.tmp 6] Tryz.func13 rfl rfl rfl mixed (Nat.le_of_ble_eq_true rfl) rfl fun hlen => ?_
      repeat' (simp -dsimp only [↓reduceIte, go_sem])
      refine refGet_c fun t u => ?_
      have hS := h1 t u
      subst hsr
      generalize getR b = R at *
      have cx := cellAt_known hS.x
      have hcb : (R.1.blob.owner == c) = false := by simp [hc]
      repeat' (first | (simp -dsimp only [↓reduceIte, go_sem, he, cx, hi0, hi1, hk4, hcb]) | ((refine refIs_c hS.qf ?_)) | fail)
      exact none_ _ [_] hS hr
  by_cases hk8 : (getR b).1.kind = 8
  · by_cases hc : (getR b).1.client = c
    · obtain ⟨e1, e2, e3⟩ := on_kind8 (B := C) hd hk8 hc
      rw [e1, e2, e3] at hK
      refine tcalls_walk Tryz.f13 _ [.tmp 6] Tryz.func13 rfl rfl rfl mixed (Nat.le_of_ble_eq_true rfl) rfl fun hlen => ?_
      repeat' (simp -dsimp only [↓reduceIte, go_sem])
      refine refGet_c fun t u => ?_
      have hS := h1 t u
      subst hsr
      generalize getR b = R at *
      have cx := cellAt_known hS.x
      have hcb : (R.1.client == c) = true := by simp [hc]
      repeat' (first | (simp -dsimp only [↓reduceIte, go_sem, he, cx, hi0, hi1, hk8, hcb]) | ((refine refIs_c hS.qf ?_)) | (with_reducible refine awp_drawT (id := 22) (.op 0 2 (.op 1 2 (.op 2 2 (.op 3 2 (.op 4 2 (.op 5 2 (.op 6 2 (.op 7 1 .nil)))))))) (by kernel_rfl) ?_) | fail)
      refine vRPrune_c hS hC fun s3 h3 => ?_
      repeat' (first | (simp -dsimp only [↓reduceIte, go_sem]) | (refine later_intro ⟨keeps_nil, ?_⟩) | fail)
      exact hK _ .full [] rfl h3.less
    · have hr := on_rest (M := N) (B := C) (c := c) (b := b) (by omega) (by omega) (by omega) (by omega) hk5
      refine tcalls_walk Tryz.f13 _ [.tmp 6] Tryz.func13 rfl rfl rfl mixed (Nat.le_of_ble_eq_true rfl) rfl fun hlen => ?_
      repeat' (simp -dsimp only [↓reduceIte, go_sem])
      refine refGet_c fun t u => ?_
      have hS := h1 t u
      subst hsr
      generalize getR b = R at *
      have cx := cellAt_known hS.x
      have hcb : (R.1.client == c) = false := by simp [hc]
      repeat' (first | (simp -dsimp only [↓reduceIte, go_sem, he, cx, hi0, hi1, hk8, hcb]) | ((refine refIs_c hS.qf ?_)) | fail)
      exact none_ _ [_] hS hr
  by_cases hk1 : (getR b).1.kind = 1
  rotate_left
  · have hr := on_rest (M := N) (B := C) (c := c) (b := b) (by omega) (by omega) (by omega) (by omega) hk5
    refine tcalls_walk Tryz.f13 _ [.tmp 6] Tryz.func13 rfl rfl rfl mixed (Nat.le_of_ble_eq_true rfl) rfl fun hlen => ?_
    repeat' (simp -dsimp only [↓reduceIte, go_sem])
    refine refGet_c fun t u => ?_
    have hS := h1 t u
    subst hsr
    generalize getR b = R at *
    have cx := cellAt_known hS.x
    repeat' (first | (simp -dsimp only [↓reduceIte, go_sem, he, cx, hi0, hi1, hk1, hk3, hk4, hk5, hk8]) | (refine guardV_split (fun h => ?_) (fun h => ?_) <;> (try rw [h]) <;> (try simp at h) <;> (try (exfalso; omega))) | ((refine refIs_c hS.qf ?_)) | fail)
    exact none_ _ [_] hS hr
  by_cases hc : (getR b).1.client = c
  rotate_left
  · have hr := on_rest (M := N) (B := C) (c := c) (b := b) (by omega) (by omega) (by omega) (by omega) hk5
    refine tcalls_walk Tryz.f13 _ [.tmp 6] Tryz.func13 rfl rfl rfl mixed (Nat.le_of_ble_eq_true rfl) rfl fun hlen => ?_
    repeat' (simp -dsimp only [↓reduceIte, go_sem])
    refine refGet_c fun t u => ?_
    have hS := h1 t u
    subst hsr
    generalize getR b = R at *
    have cx := cellAt_known hS.x
    have hcb : (R.1.client != c) = true := by simp [hc]
    repeat' (first | (simp -dsimp only [↓reduceIte, go_sem, he, cx, hi0, hi1, hk1, hcb]) | ((refine refIs_c hS.qf ?_)) | fail)
    exact none_ _ [_] hS hr
  obtain ⟨e1, e2, e3⟩ := on_kind1 (B := C) hd hk1 hc
  rw [e1, e2, e3] at hK
  refine tcalls_walk Tryz.f13 _ [.tmp 6] Tryz.func13 rfl rfl rfl mixed (Nat.le_of_ble_eq_true rfl) rfl fun hlen => ?_
  repeat' (simp -dsimp only [↓reduceIte, go_sem])
  refine refGet_c fun t u => ?_
  have hS := h1 t u
  subst hsr
  generalize getR b = R at *
  have cx := cellAt_known hS.x
  have hcb : (R.1.client != c) = false := by simp [hc]
  have hlt := hS.lt
  generalize hs1 : s.app [.cells (msgV t u R.1)] = s1 at hS
  have hxx := hS.x
  have hxA := fun l => objs_known_app hxx l
  have b0 := (hS.f _ (List.mem_cons_self ..)).2
  dsimp only at b0
  have cx := cellAt_known hS.x
  have cb0 := cellAt_known b0
  have b0A := fun l => objs_known_app b0 l
  repeat' (first | (simp -dsimp only [↓reduceIte, go_sem, he, hs1, cx, cb0, hi0, hi1, hk1, hcb]) | (refine both_ways ?_ ?_) | ((refine refIs_c hS.qf ?_)) | (with_reducible refine awp_drawU (id := 9) (.op 0 0 (.op 1 0 (.op 2 0 (.op 3 0 (.op 4 0 (.op 5 0 (.op 6 0 (.fork 7 (.op 7 1 (.op 8 0 (.op 9 0 (.op 10 0 (.op 11 1 (.op 12 1 (.op 13 2 .nil))))))) (.op 11 1 (.cut (.op 7 1 (.op 8 2 (.op 9 2 (.op 10 0 (.op 12 1 (.op 13 2 .nil)))))))))))))))) (by kernel_rfl) ?_) | (with_reducible refine keeps_go ?_ ?_; focus (simp [keeps_cons, keeps_none, objs_app, objs_app0, hxx, hxA, b0, b0A]; done)) | fail)
  case refine_1 =>
    refine vRSubmit_c hS hN fun t' s2 h2 => ?_
    have h3 := h2.box (.cells (repV t' (N.submit c R.1.sub).2.1))
    have o2 := (h3.f _ (List.mem_cons_self ..)).2
    dsimp only at o2
    have c2 := cellAt_known o2
    have hx2 := h2.x
    have b2 := (h2.f _ (List.mem_cons_self ..)).2
    dsimp only at b2
    have hx3 := fun l => objs_known_app hx2 l
    have b3 := fun l => objs_known_app b2 l
    by_cases hw : (N.submit c R.1.sub).2.2 = 0
    · rw [if_pos hw] at hK
      repeat' (first | (simp -dsimp only [↓reduceIte, go_sem, hw, c2, o2]) | (refine build_slice E76 rfl (by decide) (by intro v hv; simp at hv; subst hv; simp [go_sem]) ?_) | (with_reducible refine keeps_go ?_ ?_; focus (simp [keeps_cons, keeps_none, objs_app, objs_app0, hxx, b0, hx2, b2, hx3, b3]; done)) | fail)
      exact hK _ .full [(t', .full, replyM (N.submit c R.1.sub).2.1)] (by simp) h3.less.less
    · rw [if_neg hw] at hK
      repeat' (first | (simp -dsimp only [↓reduceIte, go_sem, hw, c2]) | (refine guardV_split (fun h => ?_) (fun h => ?_) <;> (try rw [h]) <;> (try simp at h) <;> (try (exfalso; omega))) | (with_reducible refine keeps_go ?_ ?_; focus (simp [keeps_cons, keeps_none, objs_app, objs_app0, hxx, b0, hx2, b2, hx3, b3]; done)) | fail)
      exact hK _ .full [] rfl h3.less.less
  case refine_2.refine_2 =>
    have h1b := hS.box (.cells (.agg (repPs .full rep0)))
    have hl1 := hS.ltq
    have hl2 := hS.ltx
    refine vRSubmit_c h1b hN fun t' s2 h2 => ?_
    have h3 := h2.setF (o' := .cells (repV t' (N.submit c R.1.sub).2.1)) (by have := hS.ext0; obtain ⟨O, T, rfl⟩ := this; simp) (by omega) (by omega) (fun y hy => by have := hS.ltF hy; omega)
    have o1 := (h2.f _ (List.mem_cons_self ..)).2
    have o2 := (h3.f _ (List.mem_cons_self ..)).2
    dsimp only at o1 o2
    have c1 := cellAt_known o1
    have c2 := cellAt_known o2
    have hx2 := h2.x
    have b2 := (h2.less.f _ (List.mem_cons_self ..)).2
    dsimp only at b2
    by_cases hw : (N.submit c R.1.sub).2.2 = 0
    · rw [if_pos hw] at hK
      repeat' (first | (simp -dsimp only [↓reduceIte, go_sem, hw, o1, c1, c2, o2]) | (refine later_intro ⟨keeps_nil, ?_⟩) | (refine build_slice E76 rfl (by decide) (by intro v hv; simp at hv; subst hv; simp [go_sem]) ?_) | fail)
      exact hK _ .full [(t', .full, replyM (N.submit c R.1.sub).2.1)] (by simp) h3.less.less
    · rw [if_neg hw] at hK
      repeat' (first | (simp -dsimp only [↓reduceIte, go_sem, hw, o1, c1, c2]) | (refine later_intro ⟨keeps_nil, ?_⟩) | (refine guardV_split (fun h => ?_) (fun h => ?_) <;> (try rw [h]) <;> (try simp at h) <;> (try (exfalso; omega))) | fail)
      exact hK _ .full [] rfl h3.less.less
end
attribute [local go_sem] subPs_0 subAt_0 subSet_0 shapes_sub Tryz.underlying34 msgSet_2 msgSet_4 msgSet_6
attribute [local go_sem] rrgPs_0 rrgAt_0 rrgPs_1 rrgAt_1 fits57 fits58x Tryz.underlying84
attribute [local go_sem] actPs_0 actAt_0 actPs_1 actAt_1 actPs_2 actAt_2 actPs_3 actAt_3 Tryz.underlying44
attribute [local go_sem] isAgg_arr size_arr shape_arr known_arr
noncomputable section
def layM (m : Msg) : List UInt8 := if m.Ok then m.bytes else []
def nextM (N : Reg) (a : Act13) : Msg := { msg0 with kind := 1, client := a.client, sub := { a.m.sub with num := (N.cli a.client).last.num + 1 } }
def comA (N : Reg) (a : Act13) : Msg := { msg0 with kind := 3, client := a.client, view := orderL (N.cli a.client).reply.view (N.cli a.client).reply.pending ++ [bch a.client], tag := a.m.tag }
def bytesA (N : Reg) (a : Act13) (last : List UInt8) : List UInt8 :=
  if a.kind = 0 then a.s
  else if a.kind = 7 then last
  else if a.kind = 3 ∨ a.kind = 4 then (if N.has a.client then layM (nextM N a) else [])
  else if a.kind = 5 ∨ a.kind = 6 then (if N.has a.client then layM (comA N a) else [])
  else layM a.m
end
section
variable {σ0 s : AST} {A : Ads} {n : Int} {M N : Reg} {B C : List Blob} {F : List (Nat × AObj)} {K : AV → AST → Prop}
theorem lawBytes_c (hS : Sv σ0 s A n M N B C F) (hN : N.Ok) {a : Act13} {t u : Tk} {last : List UInt8} (hw : Rng a.m.by_) (hK : ∀ s', Ext s s' → K (.str (bytesA N a last)) s') :
    TCalls Tryz.prog 10 [.ptr (some (A.x, [])), .agg (actPs t u a), .str last] s K := by
  have ha := hS.box (.cells (.agg (actPs t u a)))
  have hm : Sv σ0 (s.app [.cells (.agg (actPs t u a)), .cells (msgV t u a.m)]) A n M N B C ((s.objs.length + 1, .cells (msgV t u a.m)) :: (s.objs.length, .cells (.agg (actPs t u a))) :: F) := by
    have h0 := ha.box (.cells (msgV t u a.m))
    have e : (s.app [.cells (.agg (actPs t u a))]).app [.cells (msgV t u a.m)] = s.app [.cells (.agg (actPs t u a)), .cells (msgV t u a.m)] := by simp [AST.app]
    have e2 : (s.app [AObj.cells (.agg (actPs t u a))]).objs.length = s.objs.length + 1 := by simp [AST.app]
    rw [e, e2] at h0
    exact h0
  have hlt := hS.lt
  have hltq := hS.ltq
  have hltx := hS.ltx
  have hle : σ0.objs.length ≤ s.objs.length := by obtain ⟨O, T, rfl⟩ := hS.ext0; simp
  have q0 : a.kind ≠ 0 → (a.kind == 0) = false := fun h => by simpa using h
  have q7 : a.kind ≠ 7 → (a.kind == 7) = false := fun h => by simpa using h
  have q3 : a.kind ≠ 3 → (a.kind == 3) = false := fun h => by simpa using h
  have q4 : a.kind ≠ 4 → (a.kind == 4) = false := fun h => by simpa using h
  have q5 : a.kind ≠ 5 → (a.kind == 5) = false := fun h => by simpa using h
  have q6 : a.kind ≠ 6 → (a.kind == 6) = false := fun h => by simpa using h
  by_cases k0 : a.kind = 0
  · have e : bytesA N a last = a.s := by unfold bytesA; rw [if_pos k0]
    rw [e] at hK
    refine tcalls_walk Tryz.f10 _ [.tmp 6] Tryz.func10 rfl rfl rfl mixed (Nat.le_of_ble_eq_true rfl) rfl fun hlen => ?_
    repeat' (simp -dsimp only [↓reduceIte, go_sem, k0])
    exact hK _ (Ext.app _ _)
  by_cases k7 : a.kind = 7
  · have e : bytesA N a last = last := by unfold bytesA; rw [if_neg k0, if_pos k7]
    rw [e] at hK
    refine tcalls_walk Tryz.f10 _ [.tmp 6] Tryz.func10 rfl rfl rfl mixed (Nat.le_of_ble_eq_true rfl) rfl fun hlen => ?_
    repeat' (simp -dsimp only [↓reduceIte, go_sem, k0, k7])
    exact hK _ (Ext.app _ _)
  by_cases k34 : a.kind = 3 ∨ a.kind = 4
  · have e : bytesA N a last = if N.has a.client then layM (nextM N a) else [] := by unfold bytesA; rw [if_neg k0, if_neg k7, if_pos k34]
    rw [e] at hK
    generalize hs2 : s.app [.cells (.agg (actPs t u a)), .cells (msgV t u a.m)] = s2 at hm
    have hx2 : Ext s s2 := hs2 ▸ Ext.app _ _
    have cx := cellAt_known hm.x
    have om := (hm.f _ (List.mem_cons_self ..)).2
    dsimp only at om
    have cm := cellAt_known om
    have oa := (hm.less.f _ (List.mem_cons_self ..)).2
    dsimp only at oa
    have ca := cellAt_known oa
    by_cases hi : N.has a.client
    · rw [if_pos hi] at hK
      have hi0 : 0 ≤ a.client := hi.1
      have hi1 : a.client < N.rm.n := hi.2
      have hiR : N.rm.has a.client := hi
      have hnm := hN.nm _ (hN.cli_mem hi)
      have hwr : IntKind.i64.wrap ((N.cli a.client).last.num + 1) = (N.cli a.client).last.num + 1 := wrap_i64 (by omega) (by omega)
      have hF1 : ∀ y ∈ ((s.objs.length, AObj.cells (.agg (actPs t u a))) :: F), y.1 ≠ s.objs.length + 1 := fun y hy => by
        rcases List.mem_cons.1 hy with rfl | hy
        · simp
        · have := hS.ltF hy; omega
      refine tcalls_walk Tryz.f10 _ [.tmp 6] Tryz.func10 rfl rfl rfl mixed (Nat.le_of_ble_eq_true rfl) rfl fun hlen => ?_
      rcases k34 with k3 | k4
      · repeat' (first | (simp -dsimp only [↓reduceIte, go_sem, k3, hs2, cx, cm, om, ca, oa, hi0, hi1]) | ((refine refIs_c hm.qf ?_)) | fail)
        have h3 := hm.setF (o' := .cells (msgV .full .full { msg0 with kind := 1, client := a.client, sub := a.m.sub })) (by omega) (by omega) (by omega) hF1
        have e3 : ({ kind := 1, client := a.client, sub := a.m.sub, rep := msg0.rep, view := msg0.view, by_ := msg0.by_, tag := msg0.tag, own := msg0.own, blob := msg0.blob, nums := msg0.nums } : Msg) = { msg0 with kind := 1, client := a.client, sub := a.m.sub } := rfl
        rw [e3]
        generalize hs3 : s2.set (s.objs.length + 1) (.cells (msgV .full .full { msg0 with kind := 1, client := a.client, sub := a.m.sub })) = s3 at h3 ⊢
        have hx3 : Ext s s3 := hs3 ▸ hx2.set (by omega)
        have cx3 := cellAt_known h3.x
        have om3 := (h3.f _ (List.mem_cons_self ..)).2
        dsimp only at om3
        have cm3 := cellAt_known om3
        obtain ⟨tk, ok⟩ := h3.qf.o
        have ck := cellAt_known ok
        have A1 : ∀ q, cellAt s3 A.i1 (a.client.toNat :: q) = (AV.agg (subPs (N.cli a.client).last)).at q := fun q => by rw [cellAt_known h3.qf.o1, arr_at (f := fun x => AV.agg (subPs x)) (h3.qf.sub hiR), Reg.rm_sub hN hi]
        repeat' (first | (simp -dsimp only [↓reduceIte, go_sem, k3, cx3, cm3, om3, ck, A1, hwr]) | (refine idx1 h3.qf hiR ?_) | fail)
        have e4 : (msgPs Tk.full Tk.full ({ kind := 1, client := a.client, sub := { num := (N.cli a.client).last.num + 1, kind := a.m.sub.kind, target := a.m.sub.target, value := a.m.sub.value, asked := a.m.sub.asked, data := a.m.sub.data }, rep := msg0.rep, view := msg0.view, by_ := msg0.by_, tag := msg0.tag, own := msg0.own, blob := msg0.blob, nums := msg0.nums } : Msg)) = msgPs Tk.full Tk.full (nextM N a) := rfl
        rw [e4]
        have h4 := h3.setF (o' := .cells (msgV .full .full (nextM N a))) (by omega) (by omega) (by omega) hF1
        generalize hs4 : s3.set (s.objs.length + 1) (.cells (msgV .full .full (nextM N a))) = s4 at h4 ⊢
        have hx4 : Ext s s4 := hs4 ▸ hx3.set (by omega)
        have om4 := (h4.f _ (List.mem_cons_self ..)).2
        dsimp only at om4
        have cm4 := cellAt_known om4
        repeat' (first | (simp -dsimp only [↓reduceIte, go_sem, cm4]) | (refine guardV_split (fun h => ?_) (fun h => ?_) <;> (try rw [h]) <;> (try simp at h) <;> (try (exfalso; omega))) | ((refine refRight_c (show Rng (nextM N a).by_ from rng0) ?_)) | fail)
        · unfold layM at hK
          rw [if_neg h] at hK
          exact hK _ hx4
        · unfold layM at hK
          rw [if_pos h] at hK
          refine lay_c h ?_
          repeat' (simp -dsimp only [↓reduceIte, go_sem])
          exact hK _ hx4
      · repeat' (first | (simp -dsimp only [↓reduceIte, go_sem, k4, hs2, cx, cm, om, ca, oa, hi0, hi1]) | ((refine refIs_c hm.qf ?_)) | fail)
        have h3 := hm.setF (o' := .cells (msgV .full .full { msg0 with kind := 1, client := a.client, sub := a.m.sub })) (by omega) (by omega) (by omega) hF1
        have e3 : ({ kind := 1, client := a.client, sub := a.m.sub, rep := msg0.rep, view := msg0.view, by_ := msg0.by_, tag := msg0.tag, own := msg0.own, blob := msg0.blob, nums := msg0.nums } : Msg) = { msg0 with kind := 1, client := a.client, sub := a.m.sub } := rfl
        rw [e3]
        generalize hs3 : s2.set (s.objs.length + 1) (.cells (msgV .full .full { msg0 with kind := 1, client := a.client, sub := a.m.sub })) = s3 at h3 ⊢
        have hx3 : Ext s s3 := hs3 ▸ hx2.set (by omega)
        have cx3 := cellAt_known h3.x
        have om3 := (h3.f _ (List.mem_cons_self ..)).2
        dsimp only at om3
        have cm3 := cellAt_known om3
        obtain ⟨tk, ok⟩ := h3.qf.o
        have ck := cellAt_known ok
        have A1 : ∀ q, cellAt s3 A.i1 (a.client.toNat :: q) = (AV.agg (subPs (N.cli a.client).last)).at q := fun q => by rw [cellAt_known h3.qf.o1, arr_at (f := fun x => AV.agg (subPs x)) (h3.qf.sub hiR), Reg.rm_sub hN hi]
        repeat' (first | (simp -dsimp only [↓reduceIte, go_sem, k4, cx3, cm3, om3, ck, A1, hwr]) | (refine idx1 h3.qf hiR ?_) | fail)
        have e4 : (msgPs Tk.full Tk.full ({ kind := 1, client := a.client, sub := { num := (N.cli a.client).last.num + 1, kind := a.m.sub.kind, target := a.m.sub.target, value := a.m.sub.value, asked := a.m.sub.asked, data := a.m.sub.data }, rep := msg0.rep, view := msg0.view, by_ := msg0.by_, tag := msg0.tag, own := msg0.own, blob := msg0.blob, nums := msg0.nums } : Msg)) = msgPs Tk.full Tk.full (nextM N a) := rfl
        rw [e4]
        have h4 := h3.setF (o' := .cells (msgV .full .full (nextM N a))) (by omega) (by omega) (by omega) hF1
        generalize hs4 : s3.set (s.objs.length + 1) (.cells (msgV .full .full (nextM N a))) = s4 at h4 ⊢
        have hx4 : Ext s s4 := hs4 ▸ hx3.set (by omega)
        have om4 := (h4.f _ (List.mem_cons_self ..)).2
        dsimp only at om4
        have cm4 := cellAt_known om4
        repeat' (first | (simp -dsimp only [↓reduceIte, go_sem, cm4]) | (refine guardV_split (fun h => ?_) (fun h => ?_) <;> (try rw [h]) <;> (try simp at h) <;> (try (exfalso; omega))) | ((refine refRight_c (show Rng (nextM N a).by_ from rng0) ?_)) | fail)
        · unfold layM at hK
          rw [if_neg h] at hK
          exact hK _ hx4
        · unfold layM at hK
          rw [if_pos h] at hK
          refine lay_c h ?_
          repeat' (simp -dsimp only [↓reduceIte, go_sem])
          exact hK _ hx4
    · rw [if_neg hi] at hK
      have hi' : (0 ≤ a.client ∧ a.client < N.rm.n) = False := eq_false hi
      refine tcalls_walk Tryz.f10 _ [.tmp 6] Tryz.func10 rfl rfl rfl mixed (Nat.le_of_ble_eq_true rfl) rfl fun hlen => ?_
      rcases k34 with k3 | k4
      · repeat' (first | (simp -dsimp only [↓reduceIte, go_sem, k3, hs2, cx, cm, ca, oa, hi']) | ((refine refIs_c hm.qf ?_)) | fail)
        all_goals first
          | exact hK _ hx2
          | (refine absurd ?_ hi; assumption)
      · repeat' (first | (simp -dsimp only [↓reduceIte, go_sem, k4, hs2, cx, cm, ca, oa, hi']) | ((refine refIs_c hm.qf ?_)) | fail)
        all_goals first
          | exact hK _ hx2
          | (refine absurd ?_ hi; assumption)
  by_cases k56 : a.kind = 5 ∨ a.kind = 6
  · have e : bytesA N a last = if N.has a.client then layM (comA N a) else [] := by unfold bytesA; rw [if_neg k0, if_neg k7, if_neg k34, if_pos k56]
    rw [e] at hK
    generalize hs2 : s.app [.cells (.agg (actPs t u a)), .cells (msgV t u a.m)] = s2 at hm
    have hx2 : Ext s s2 := hs2 ▸ Ext.app _ _
    have cx := cellAt_known hm.x
    have om := (hm.f _ (List.mem_cons_self ..)).2
    dsimp only at om
    have cm := cellAt_known om
    have oa := (hm.less.f _ (List.mem_cons_self ..)).2
    dsimp only at oa
    have ca := cellAt_known oa
    by_cases hi : N.has a.client
    · rw [if_pos hi] at hK
      have hi0 : 0 ≤ a.client := hi.1
      have hi1 : a.client < N.rm.n := hi.2
      have hiR : N.rm.has a.client := hi
      have hrp := hN.rp _ (hN.cli_mem hi)
      have hrv := hN.rv _ (hN.cli_mem hi)
      obtain ⟨tk, ok⟩ := hm.qf.o
      have ck := cellAt_known ok
      obtain ⟨l2, hl2, o2⟩ := hm.qf.o2
      obtain ⟨tr, hlr⟩ : ∃ tr, l2[a.client.toNat]? = some (tr, (N.cli a.client).reply) := by
        have h1 := hm.qf.rep hiR
        rw [Reg.rm_rep hN hi, ← hl2, List.getElem?_map, Option.map_eq_some_iff] at h1
        obtain ⟨⟨p, q⟩, h2, h3⟩ := h1
        simp only at h3; subst h3; exact ⟨p, h2⟩
      have A2 : ∀ q, cellAt s2 A.i2 (a.client.toNat :: q) = (AV.agg (repPs tr (N.cli a.client).reply)).at q := fun q => by rw [cellAt_known o2, arr_at hlr]; rfl
      have hF1 : ∀ y ∈ ((s.objs.length, AObj.cells (.agg (actPs t u a))) :: F), y.1 ≠ s.objs.length + 1 := fun y hy => by
        rcases List.mem_cons.1 hy with rfl | hy
        · simp
        · have := hS.ltF hy; omega
      refine tcalls_walk Tryz.f10 _ [.tmp 6] Tryz.func10 rfl rfl rfl mixed (Nat.le_of_ble_eq_true rfl) rfl fun hlen => ?_
      rcases k56 with k5 | k6
      · repeat' (first | (simp -dsimp only [↓reduceIte, go_sem, k5, hs2, cx, cm, om, ca, oa, ck, hi0, hi1, A2]) | ((refine refIs_c hm.qf ?_)) | (with_reducible refine awp_drawT (id := 18) (.op 0 2 (.op 1 2 (.op 2 2 (.op 3 2 (.op 4 2 (.op 5 2 (.op 6 2 (.op 7 2 (.op 8 2 (.op 9 2 (.op 10 2 (.op 11 2 (.op 13 2 (.op 14 2 (.op 12 3 (.op 15 2 (.op 16 1 .nil))))))))))))))))) (by kernel_rfl) ?_) | (refine idx2 hm.qf hiR ?_) | (refine after_c (by omega) (by omega) ?_) | fail)
        have e4 : (msgPs Tk.full Tk.full ({ kind := 3, client := a.client, sub := msg0.sub, rep := msg0.rep, view := orderL (N.cli a.client).reply.view (N.cli a.client).reply.pending ++ [bch a.client], by_ := msg0.by_, tag := a.m.tag, own := msg0.own, blob := msg0.blob, nums := msg0.nums } : Msg)) = msgPs Tk.full Tk.full (comA N a) := rfl
        rw [e4]
        have h4 := hm.setF (o' := .cells (msgV .full .full (comA N a))) (by omega) (by omega) (by omega) hF1
        generalize hs4 : s2.set (s.objs.length + 1) (.cells (msgV .full .full (comA N a))) = s4 at h4 ⊢
        have hx4 : Ext s s4 := hs4 ▸ hx2.set (by omega)
        have om4 := (h4.f _ (List.mem_cons_self ..)).2
        dsimp only at om4
        have cm4 := cellAt_known om4
        repeat' (first | (simp -dsimp only [↓reduceIte, go_sem, cm4]) | (refine guardV_split (fun h => ?_) (fun h => ?_) <;> (try rw [h]) <;> (try simp at h) <;> (try (exfalso; omega))) | ((refine refRight_c (show Rng (comA N a).by_ from rng0) ?_)) | fail)
        · unfold layM at hK
          rw [if_neg h] at hK
          exact hK _ hx4
        · unfold layM at hK
          rw [if_pos h] at hK
          refine lay_c h ?_
          repeat' (simp -dsimp only [↓reduceIte, go_sem])
          exact hK _ hx4
      · repeat' (first | (simp -dsimp only [↓reduceIte, go_sem, k6, hs2, cx, cm, om, ca, oa, ck, hi0, hi1, A2]) | ((refine refIs_c hm.qf ?_)) | (with_reducible refine awp_drawT (id := 18) (.op 0 2 (.op 1 2 (.op 2 2 (.op 3 2 (.op 4 2 (.op 5 2 (.op 6 2 (.op 7 2 (.op 8 2 (.op 9 2 (.op 10 2 (.op 11 2 (.op 13 2 (.op 14 2 (.op 12 3 (.op 15 2 (.op 16 1 .nil))))))))))))))))) (by kernel_rfl) ?_) | (refine idx2 hm.qf hiR ?_) | (refine after_c (by omega) (by omega) ?_) | fail)
        have e4 : (msgPs Tk.full Tk.full ({ kind := 3, client := a.client, sub := msg0.sub, rep := msg0.rep, view := orderL (N.cli a.client).reply.view (N.cli a.client).reply.pending ++ [bch a.client], by_ := msg0.by_, tag := a.m.tag, own := msg0.own, blob := msg0.blob, nums := msg0.nums } : Msg)) = msgPs Tk.full Tk.full (comA N a) := rfl
        rw [e4]
        have h4 := hm.setF (o' := .cells (msgV .full .full (comA N a))) (by omega) (by omega) (by omega) hF1
        generalize hs4 : s2.set (s.objs.length + 1) (.cells (msgV .full .full (comA N a))) = s4 at h4 ⊢
        have hx4 : Ext s s4 := hs4 ▸ hx2.set (by omega)
        have om4 := (h4.f _ (List.mem_cons_self ..)).2
        dsimp only at om4
        have cm4 := cellAt_known om4
        repeat' (first | (simp -dsimp only [↓reduceIte, go_sem, cm4]) | (refine guardV_split (fun h => ?_) (fun h => ?_) <;> (try rw [h]) <;> (try simp at h) <;> (try (exfalso; omega))) | ((refine refRight_c (show Rng (comA N a).by_ from rng0) ?_)) | fail)
        · unfold layM at hK
          rw [if_neg h] at hK
          exact hK _ hx4
        · unfold layM at hK
          rw [if_pos h] at hK
          refine lay_c h ?_
          repeat' (simp -dsimp only [↓reduceIte, go_sem])
          exact hK _ hx4
    · rw [if_neg hi] at hK
      have hi' : (0 ≤ a.client ∧ a.client < N.rm.n) = False := eq_false hi
      refine tcalls_walk Tryz.f10 _ [.tmp 6] Tryz.func10 rfl rfl rfl mixed (Nat.le_of_ble_eq_true rfl) rfl fun hlen => ?_
      rcases k56 with k5 | k6
      · repeat' (first | (simp -dsimp only [↓reduceIte, go_sem, k5, hs2, cx, cm, ca, oa, hi']) | ((refine refIs_c hm.qf ?_)) | fail)
        all_goals first
          | exact hK _ hx2
          | (refine absurd ?_ hi; assumption)
      · repeat' (first | (simp -dsimp only [↓reduceIte, go_sem, k6, hs2, cx, cm, ca, oa, hi']) | ((refine refIs_c hm.qf ?_)) | fail)
        all_goals first
          | exact hK _ hx2
          | (refine absurd ?_ hi; assumption)
  · have e : bytesA N a last = layM a.m := by unfold bytesA; rw [if_neg k0, if_neg k7, if_neg k34, if_neg k56]
    rw [e] at hK
    have k3 : ¬ a.kind = 3 := by omega
    have k4 : ¬ a.kind = 4 := by omega
    have k5 : ¬ a.kind = 5 := by omega
    have k6 : ¬ a.kind = 6 := by omega
    refine tcalls_walk Tryz.f10 _ [.tmp 6] Tryz.func10 rfl rfl rfl mixed (Nat.le_of_ble_eq_true rfl) rfl fun hlen => ?_
    repeat' (first | (simp -dsimp only [↓reduceIte, go_sem, q0 k0, q3 k3, q4 k4, q5 k5, q6 k6, q7 k7]) | (refine guardV_split (fun h => ?_) (fun h => ?_) <;> (try rw [h]) <;> (try simp at h) <;> (try (exfalso; omega))) | ((refine refRight_c hw ?_)) | fail)
    · unfold layM at hK
      rw [if_neg h] at hK
      exact hK _ (Ext.app _ _)
    · unfold layM at hK
      rw [if_pos h] at hK
      refine lay_c h ?_
      repeat' (simp -dsimp only [↓reduceIte, go_sem])
      exact hK _ (Ext.app _ _)
end
end Go.Aff.L10

namespace Go.Proofs
open Go.Shelf
def Tryz.lays189_ren : Go.Shelf.Ren := ⟨fun | 189 => 47 | 125 => 86 | 257 => 85 | 128 => 121 | 129 => 122 | 294 => 112 | 295 => 113 | 296 => 114 | 297 => 115 | 298 => 116 | 299 => 117 | 216 => 118 | 300 => 119 | 301 => 120 | 328 => 143 | 329 => 144 | 330 => 145 | 331 => 146 | 332 => 147 | 215 => 148 | 343 => 153 | n => n, fun | 28 => 40 | 3 => 3 | 46 => 161 | 0 => 0 | 51 => 195 | 53 => 197 | 4 => 4 | 183 => 187 | 182 => 186 | 131 => 192 | 5 => 5 | 9 => 9 | 218 => 213 | 222 => 217 | 228 => 220 | 229 => 156 | n => n, fun | n => n⟩
theorem Tryz.lays189 : Go.Proofs.Lays.n189 Tryz.prog Tryz.lays189_ren := {
  mixed := by kernel_rfl
  f125 := Tryz.func86.trans (congrArg some (by kernel_rfl))
  f128 := Tryz.func121.trans (congrArg some (by kernel_rfl))
  f129 := Tryz.func122.trans (congrArg some (by kernel_rfl))
  f189 := Tryz.func47.trans (congrArg some (by kernel_rfl))
  f215 := Tryz.func148.trans (congrArg some (by kernel_rfl))
  f216 := Tryz.func118.trans (congrArg some (by kernel_rfl))
  f257 := Tryz.func85.trans (congrArg some (by kernel_rfl))
  f294 := Tryz.func112.trans (congrArg some (by kernel_rfl))
  f295 := Tryz.func113.trans (congrArg some (by kernel_rfl))
  f296 := Tryz.func114.trans (congrArg some (by kernel_rfl))
  f297 := Tryz.func115.trans (congrArg some (by kernel_rfl))
  f298 := Tryz.func116.trans (congrArg some (by kernel_rfl))
  f299 := Tryz.func117.trans (congrArg some (by kernel_rfl))
  f300 := Tryz.func119.trans (congrArg some (by kernel_rfl))
  f301 := Tryz.func120.trans (congrArg some (by kernel_rfl))
  f328 := Tryz.func143.trans (congrArg some (by kernel_rfl))
  f329 := Tryz.func144.trans (congrArg some (by kernel_rfl))
  f330 := Tryz.func145.trans (congrArg some (by kernel_rfl))
  f331 := Tryz.func146.trans (congrArg some (by kernel_rfl))
  f332 := Tryz.func147.trans (congrArg some (by kernel_rfl))
  f343 := Tryz.func153.trans (congrArg some (by kernel_rfl))
  t0 := Tryz.underlying0
  a0 := Tryz.isAgg0
  z0 := Tryz.sizeOf0
  v0 := Tryz.zeroValue0
  t3 := Tryz.underlying3
  a3 := Tryz.isAgg3
  z3 := Tryz.sizeOf3
  v3 := Tryz.zeroValue3
  t4 := Tryz.underlying4
  a4 := Tryz.isAgg4
  z4 := Tryz.sizeOf4
  v4 := Tryz.zeroValue4
  t5 := Tryz.underlying5
  a5 := Tryz.isAgg5
  z5 := Tryz.sizeOf5
  v5 := Tryz.zeroValue5
  t9 := Tryz.underlying9
  a9 := Tryz.isAgg9
  z9 := Tryz.sizeOf9
  v9 := Tryz.zeroValue9
  t28 := Tryz.underlying40
  a28 := Tryz.isAgg40
  z28 := Tryz.sizeOf40
  v28 := Tryz.zeroValue40
  t46 := Tryz.underlying161
  a46 := Tryz.isAgg161
  z46 := Tryz.sizeOf161
  v46 := Tryz.zeroValue161
  t51 := Tryz.underlying195
  a51 := Tryz.isAgg195
  z51 := Tryz.sizeOf195
  v51 := Tryz.zeroValue195
  t53 := Tryz.underlying197
  a53 := Tryz.isAgg197
  z53 := Tryz.sizeOf197
  v53 := Tryz.zeroValue197
  t131 := Tryz.underlying192
  a131 := Tryz.isAgg192
  z131 := Tryz.sizeOf192
  v131 := Tryz.zeroValue192
  t182 := Tryz.underlying186
  a182 := Tryz.isAgg186
  z182 := Tryz.sizeOf186
  v182 := Tryz.zeroValue186
  t183 := Tryz.underlying187
  a183 := Tryz.isAgg187
  z183 := Tryz.sizeOf187
  v183 := Tryz.zeroValue187
  t218 := Tryz.underlying213
  a218 := Tryz.isAgg213
  z218 := Tryz.sizeOf213
  v218 := Tryz.zeroValue213
  t222 := Tryz.underlying217
  a222 := Tryz.isAgg217
  z222 := Tryz.sizeOf217
  v222 := Tryz.zeroValue217
  t228 := Tryz.underlying220
  a228 := Tryz.isAgg220
  z228 := Tryz.sizeOf220
  v228 := Tryz.zeroValue220
  t229 := Tryz.underlying156
  a229 := Tryz.isAgg156
  z229 := Tryz.sizeOf156
  v229 := Tryz.zeroValue156 }
open Go.Sort Go.RowKit in
theorem Tryz.slices_Sort_int (blk off cap : Nat) (zs : List Int) (w : World) (hH : Holds (Value.int .i64) w blk off zs.toArray) (hblk : blk < w.heap.size) (hsz : zs.length < 4611686018427387904) :
    Calls Tryz.prog 47 #[.slice (some ⟨blk, off, none⟩) zs.length cap] w fun e w' =>
      e = .returned (.tuple #[]) ∧ ∃ n os, w' = grow (putRow (Value.int .i64) (Sort.ahead w n) blk off (zs.mergeSort fun x y => decide (x ≤ y)).toArray) os := Any.slices_Sort_int Tryz.lays189 blk off cap zs w hH hblk hsz
open Go.RowKit Go.Sort in
theorem Tryz.slices_Sort_int_none (p : Option Addr) (cap : Nat) (w : World) :
    Calls Tryz.prog 47 #[.slice p 0 cap] w fun e w' => e = .returned (.tuple #[]) ∧ w' = w := Any.slices_Sort_int_none Tryz.lays189 p cap w
end Go.Proofs

namespace Go.Aff

variable {g g' : G} {w w' : World} {σ σ' : AST} {P : Program}

def G.freeze (g : G) (b n : Nat) : G := { g with lim := fun x => if x = b then some n else g.lim x }

theorem inv_freeze (hI : Inv g σ w) {b n : Nat} (hb : g.base ≤ b) (hl : g.lim b = none) (hne : ∀ (j : Nat) o b' sh, σ.objs[j]? = some o → o.live = true → g.objs[j]? = some (b', sh) → b' ≠ b)
    (hrow : ∃ c e fr, w.heap[b]? = some (.cells c e fr) ∧ n ≤ c.size ∧ (fr.1 = fr.2 ∨ c.size ≤ fr.1)) : Inv (g.freeze b n) σ w ∧ Ev g w (g.freeze b n) w := by
  have hE : Ev g w (g.freeze b n) w := by
    refine ⟨rfl, rfl, rfl, Nat.le_refl _, rfl, fun _ _ => rfl, fun _ _ h => h, fun x L hx => ⟨⟨L, ?_, Nat.le_refl _⟩, fun c e fr h => ⟨c, e, fr, h, fun _ _ => rfl⟩⟩, fun t e h => ⟨e, h, rfl, Nat.le_refl _, fun _ => rfl, .inl rfl⟩⟩
    have : x ≠ b := by rintro rfl; rw [hl] at hx; cases hx
    simp [G.freeze, this, hx]
  refine ⟨⟨hI.base, hI.nobj, ?_, hI.inj, ?_, hI.ntok, ?_, hI.tinj⟩, hE⟩
  · intro j o ho hlv
    obtain ⟨b', sh, h1, h2, h3, h4⟩ := hI.obj j o ho hlv
    have := hne j o b' sh ho hlv h1
    exact ⟨b', sh, h1, h2, by simp [G.freeze, this, h3], objIn_mono hE rfl h4⟩
  · intro x L hx
    by_cases e : x = b
    · subst e
      simp [G.freeze] at hx; subst hx
      exact ⟨hb, hrow⟩
    · simp [G.freeze, e] at hx
      exact hI.rows x L hx
  · intro t e he
    obtain ⟨a1, a2, a3, a4, a5⟩ := hI.tok t e he
    refine ⟨a1, a2, a3, a4, fun x o hx hlt => ?_⟩
    obtain ⟨c1, c2⟩ := a5 x o hx hlt
    have : x ≠ b := by rintro rfl; rw [hl] at c1; cases c1
    exact ⟨by simp [G.freeze, this, c1], c2⟩

def Lit (σ0 σ : AST) (e : TypeId) (v : AV) (xs : List Int) : Prop :=
  (xs = [] ∧ v = .slice .full []) ∨
  ∃ b c i cs, v = .lit (.slice (some ⟨b, 0, none⟩) xs.length c) ∧ σ0.objs.length ≤ i ∧ σ.objs[i]? = some (.pin b (.cells cs e) [] []) ∧ cs.size = c ∧ c ≤ maxL ∧ xs.length ≤ c ∧
    ∀ (j : Nat) x, xs[j]? = some x → cs[j]? = some (.int .i64 x)

def isRow : AObj → Bool
  | .pin _ (.cells _ _ _) _ _ => true
  | _ => false

theorem Lit.nil {σ0 σ : AST} {e : TypeId} : Lit σ0 σ e (.slice .full []) [] := .inl ⟨rfl, rfl⟩

theorem Lit.keep {σ0 σ σ' : AST} {e : TypeId} {v : AV} {xs : List Int} (h : Lit σ0 σ e v xs) (hk : ∀ (j : Nat) o, σ.objs[j]? = some o → isRow o = true → σ'.objs[j]? = some o) : Lit σ0 σ' e v xs := by
  rcases h with h | ⟨b, c, i, cs, h1, h2, h3, h4⟩
  · exact .inl h
  · exact .inr ⟨b, c, i, cs, h1, h2, hk _ _ h3 rfl, h4⟩

theorem append_lit {σ0 σ : AST} {t u e b : Nat} (E : ElemT P t e 1 b) (hz : ∃ z, ZeroOf P e z ∧ z.size = 1) {tk2 : Tk} {v : AV} {xs : List Int} {y : Int} {K : AV → AST → Prop} (hu : isSliceT P u = true) (hx : Ext σ0 σ) (hv : Lit σ0 σ e v xs)
    (hl : (xs.length + 1) * b ≤ 140737488355328) (hm : xs.length + 1 ≤ maxL)
    (hK : ∀ v' σ', Ext σ0 σ' → Lit σ0 σ' e v' (xs ++ [y]) → (∀ (j : Nat) o, σ.objs[j]? = some o → isRow o = false → σ'.objs[j]? = some o) → σ'.toks = σ.toks → K v' σ') :
    appendW P ⟨[t, u]⟩ v (.slice tk2 [.int .i64 y]) σ K := by
  refine .inr ⟨t, u, e, y, rfl, rfl, E.hu, by simp [elemsOf, isSliceT_iff hu], hz, ?_⟩
  have hnew : ∀ (b c : Nat) (cs : Array Value), (∀ (j : Nat) x, xs[j]? = some x → cs[j]? = some (.int .i64 x)) → cs[xs.length]? = some (.int .i64 y) → cs.size = c → xs.length + 1 ≤ c → c ≤ maxL →
      K (.lit (.slice (some ⟨b, 0, none⟩) (xs.length + 1) c)) (σ.push (.pin b (.cells cs e) [] [])) := by
    intro b c cs hold hy hsz hle hcm
    refine hK _ _ (hx.trans (Ext.push _ _)) (.inr ⟨b, c, σ.objs.length, cs, by simp, ?_, by simp [AST.push], hsz, hcm, by simp; omega, ?_⟩) ?_ rfl
    · obtain ⟨O, T, rfl⟩ := hx; simp
    · intro j x hj
      rw [List.getElem?_append] at hj
      split at hj
      · exact hold j x hj
      · rename_i hlt
        have : j - xs.length = 0 := by
          by_cases e : j - xs.length = 0
          · exact e
          · rw [List.getElem?_eq_none (by simp; omega)] at hj; cases hj
        rw [this] at hj
        simp at hj; subst hj
        have : j = xs.length := by omega
        rw [this]; exact hy
    · intro j o ho _
      simp only [AST.push]
      exact getElem?_append_some ho
  rcases hv with ⟨rfl, rfl⟩ | ⟨b0, c, i, cs, rfl, h2, h3, h4, h5, h6, h7⟩
  · refine ⟨rfl, by rw [E.hb]; simpa using hl, fun b' c cs h1 h2 h3 h4 => ?_⟩
    exact hnew b' c cs (by simp) (by simpa using h1) h2 (by simpa using h3) h4
  · refine ⟨i, cs, rfl, rfl, h3, h4, h6, h5, by rw [E.hb]; exact hl, hm, fun hlt => ?_, fun b' c' cs' a1 a2 a3 a4 a5 => ?_⟩
    · refine hK _ _ (hx.set h2) (.inr ⟨b0, c, i, cs.setIfInBounds xs.length (.int .i64 y), by simp, h2, by simp [AST.set, (List.getElem?_eq_some_iff.1 h3).1], by simpa using h4, h5, by simp; omega, ?_⟩) ?_ rfl
      · intro j x hj
        rw [List.getElem?_append] at hj
        split at hj
        · rename_i hlt2
          rw [Array.getElem?_setIfInBounds, if_neg (by omega)]; exact h7 j x hj
        · rename_i hlt2
          have : j - xs.length = 0 := by
            by_cases e : j - xs.length = 0
            · exact e
            · rw [List.getElem?_eq_none (by simp; omega)] at hj; cases hj
          rw [this] at hj
          simp at hj; subst hj
          have : j = xs.length := by omega
          rw [this, Array.getElem?_setIfInBounds, if_pos rfl, if_pos (by omega)]
      · intro j o ho hr
        by_cases e : j = i
        · subst e; rw [h3] at ho; cases ho; cases hr
        · simp only [AST.set]; rw [List.getElem?_set, if_neg (fun h => e h.symm)]; exact ho
    · refine hnew b' c' cs' (fun j x hj => ?_) a2 a3 a4 a5
      rw [a1 j (List.getElem?_eq_some_iff.1 hj).1]; exact h7 j x hj

theorem relEs_ints {g : G} {w : World} : ∀ {xs : List Int}, relEs g w 1 (xs.map fun x => AV.int .i64 x) (xs.map fun x => Value.int .i64 x)
  | [] => by simp [relEs]
  | x :: r => by
    simp only [List.map_cons, relEs]
    exact ⟨[.int .i64 x], _, rfl, rfl, by simp [relC], relEs_ints⟩

theorem TCalls.freeze {f : FuncId} {args : List AV} {σ : AST} {e : TypeId} {xs : List Int} {K : AV → AST → Prop} (h : TCalls P f args σ fun v σ' => Ext σ σ' ∧ Lit σ σ' e v xs) (hK : K (.slice .none (xs.map fun x => .int .i64 x)) σ) : TCalls P f args σ K := by
  refine ⟨h.1, fun g w ys hI hr => (h.2 g w ys hI hr).mono fun ex w' ⟨x, g', v, σ', he, hE, hI', h3, hx, hv⟩ => ?_⟩
  obtain ⟨hIc, hEc⟩ := inv_cut hI hE hI' hx
  rcases hv with ⟨rfl, rfl⟩ | ⟨b, c, i, cs, rfl, h2, hp, h4, h5, h6, h7⟩
  · refine ⟨x, _, _, σ, he, hEc, hIc, ?_, hK⟩
    have := relV_strip (n := σ.objs.length) (m := σ.toks.length) (by rfl) h3
    rcases this with h | ⟨_, _, h, _⟩ | ⟨h, hag⟩
    · simp [AV.strip] at h
    · simp [AV.strip] at h
    · refine .inr (.inr ⟨?_, hag⟩)
      simp only [AV.strip] at h
      simp only [relC] at h ⊢
      obtain ⟨ad, a, c, es, css, h1, h2, h3, h4, h5, h6, h7, _⟩ := h
      exact ⟨ad, a, c, es, css, h1, h2, h3, h4, h5, h6, h7, trivial⟩
  · obtain rfl := relV_lit h3
    obtain ⟨b', sh, hg, hb, hl, hin⟩ := hI'.obj i _ hp rfl
    obtain ⟨rfl, hheap, _⟩ := hin
    obtain ⟨hIf, hEf⟩ := inv_freeze (b := b') (n := xs.length) hIc hb hl (by
      intro j o b2 sh2 ho hlv hg2 hbb
      subst hbb
      have hj : j < σ.objs.length := (List.getElem?_eq_some_iff.1 ho).1
      have ho' : σ'.objs[j]? = some o := by obtain ⟨O, T, rfl⟩ := hx; exact getElem?_append_some ho
      have hg3 : g'.objs[j]? = some (b2, sh2) := by
        simp only [G.cut, List.getElem?_take] at hg2
        rw [if_pos hj] at hg2; exact hg2
      have := hI'.inj j i _ _ b2 sh2 sh ho' hp hlv rfl hg3 hg
      omega) ⟨cs, e, (0, 0), hheap, by omega, .inl rfl⟩
    refine ⟨_, _, _, σ, he, hEc.trans hEf, hIf, relV_of ?_ rfl, hK⟩
    simp only [relC, Value.cells]
    refine ⟨some ⟨b', 0, none⟩, some (b', 0), c, 1, xs.map fun x => .int .i64 x, by simp, .inl rfl, relEs_ints, by simpa using h6, h5, by simp, fun b o hbo => .inr ?_, trivial⟩
    simp only [Option.some.injEq, Prod.mk.injEq] at hbo
    obtain ⟨rfl, rfl⟩ := hbo
    refine ⟨⟨cs, e, (0, 0), hheap, fun j hj => ?_⟩, .inr ⟨xs.length, by simp [G.freeze], by simp⟩⟩
    simp only [List.length_map] at hj
    rw [Nat.zero_add, h7 j xs[j] (by rw [List.getElem?_eq_getElem hj])]
    simp [hj]

end Go.Aff

namespace Go.Aff
open Go.Sort

variable {g g' : G} {w w' : World} {σ σ' : AST} {P : Program}

theorem objIn_some {b : Nat} {sh : Shape} {o : AObj} (h : objIn g w b sh o) (hl : o.live = true) : ∃ x, w.heap[b]? = some x := by
  cases o with
  | cells v => obtain ⟨c, e, hc, _⟩ := h; exact ⟨_, hc⟩
  | map es ck => obtain ⟨me, hc, _⟩ := h; exact ⟨_, hc⟩
  | gone => simp [AObj.live] at hl
  | pin l o vs xs => exact ⟨_, h.2.1⟩

theorem inv_grow (hI : Inv g σ w) (n : Nat) (os : Array Obj) : Inv g σ (grow (Sort.ahead w n) os) ∧ Ev g w g (grow (Sort.ahead w n) os) := by
  have hold : ∀ (b : Nat) x, w.heap[b]? = some x → (grow (Sort.ahead w n) os).heap[b]? = some x := by
    intro b x hb
    have hlt := (Array.getElem?_eq_some_iff.1 hb).1
    show (w.heap ++ os)[b]? = _
    rw [Array.getElem?_append_left hlt]; exact hb
  have hE : Ev g w g (grow (Sort.ahead w n) os) := by
    refine ⟨rfl, rfl, rfl, by simp [grow, Sort.ahead], rfl, fun b hb => ?_, fun _ _ h => h, fun b L h => ⟨⟨L, h, Nat.le_refl _⟩, fun c e fr hc => ⟨c, e, fr, hold _ _ hc, fun _ _ => rfl⟩⟩, fun t e h => ⟨e, h, rfl, Nat.le_refl _, fun _ => rfl, .inl rfl⟩⟩
    have hlt : b < w.heap.size := Nat.lt_of_lt_of_le hb hI.base
    show (w.heap ++ os)[b]? = _
    rw [Array.getElem?_append_left hlt]
  refine ⟨⟨Nat.le_trans hI.base hE.size, hI.nobj, ?_, hI.inj, ?_, hI.ntok, ?_, hI.tinj⟩, hE⟩
  · intro j q hq hql
    obtain ⟨b2, sh2, h2, hb2, hl2, hin2⟩ := hI.obj j q hq hql
    obtain ⟨x, hx⟩ := objIn_some hin2 hql
    exact ⟨b2, sh2, h2, hb2, hl2, objIn_mono hE (by rw [hold _ _ hx, hx]) hin2⟩
  · intro b L h
    obtain ⟨h1, c, e, fr, h2, h3⟩ := hI.rows b L h
    exact ⟨h1, c, e, fr, hold _ _ h2, h3⟩
  · intro t e h
    obtain ⟨a1, a2, a3, a4, a5⟩ := hI.tok t e h
    refine ⟨a1, a2, a3, a4, fun b o hb hl => ?_⟩
    obtain ⟨c1, c, el, fr, c2, c3⟩ := a5 b o hb hl
    exact ⟨c1, c, el, fr, hold _ _ c2, c3⟩

theorem sort_row {f : FuncId} {e : TypeId} (hf : FnOk P f)
    (hsort : ∀ (blk off cap : Nat) (zs : List Int) (w : World), Holds (Value.int .i64) w blk off zs.toArray → blk < w.heap.size → zs.length < 4611686018427387904 →
      Calls P f #[.slice (some ⟨blk, off, none⟩) zs.length cap] w fun e w' => e = .returned (.tuple #[]) ∧ ∃ n os, w' = grow (putRow (Value.int .i64) (Sort.ahead w n) blk off (zs.mergeSort fun x y => decide (x ≤ y)).toArray) os)
    (hnone : ∀ (p : Option Addr) (cap : Nat) (w : World), Calls P f #[.slice p 0 cap] w fun e w' => e = .returned (.tuple #[]) ∧ w' = w)
    {σ0 σ : AST} {v : AV} {xs : List Int} {K : AV → AST → Prop} (hx : Ext σ0 σ) (hv : Lit σ0 σ e v xs) (hl : xs.length < 4611686018427387904)
    (hK : ∀ σ', Ext σ0 σ' → Lit σ0 σ' e v (xs.mergeSort fun x y => decide (x ≤ y)) → K (.tuple []) σ') : TCalls P f [v] σ K := by
  refine ⟨hf, fun g w ys hI hr => ?_⟩
  obtain ⟨y, rfl, hy⟩ : ∃ y, ys = #[y] ∧ relV g w v y := by
    obtain ⟨h1, h2⟩ := hr
    have : ys.size = 1 := by simpa using h1.symm
    obtain ⟨y, rfl⟩ := Array.size_eq_one_iff.1 this
    exact ⟨y, rfl, h2 0 v y rfl rfl⟩
  rcases hv with ⟨rfl, rfl⟩ | ⟨b, c, i, cs, rfl, h2, hp, h4, h5, h6, h7⟩
  · obtain ⟨ad, a, c, es, css, rfl, had, hes, hc, hcm, hnn, hmem, htok⟩ := relV_slice hy
    refine (hnone ad c w).mono fun ex w' ⟨he, hw⟩ => ?_
    subst hw
    exact ⟨.tuple #[], g, .tuple [], σ, he, Ev.refl _ _, hI, .inr (.inl ⟨[], #[], rfl, rfl, by simp [relVs]⟩), hK σ hx (.inl ⟨by simp, rfl⟩)⟩
  · obtain rfl := relV_lit hy
    obtain ⟨hheap, _⟩ := inv_pin_heap hI hp
    have hblk : b < w.heap.size := (Array.getElem?_eq_some_iff.1 hheap).1
    have hH : Holds (Value.int .i64) w b 0 xs.toArray := by
      intro j hj
      simp only [List.size_toArray] at hj
      have h8 := h7 j xs[j] (by rw [List.getElem?_eq_getElem hj])
      refine ⟨?_, ?_⟩
      · simp only [World.cell?, hheap, Nat.zero_add]
        rw [h8]; congr 2
        simp [hj]
      · simp [World.frozen?, hheap]
    refine (hsort b 0 c xs w hH hblk hl).mono fun ex w' ⟨he, n, os, hw⟩ => ?_
    subst hw
    have hpm := List.mergeSort_perm xs (fun x y => decide (x ≤ y))
    have hlen := hpm.length_eq
    generalize xs.mergeSort (fun x y => decide (x ≤ y)) = zs at *
    have e1 : putRow (Value.int .i64) w b 0 zs.toArray = w.putObj b (.cells (putCells (Value.int .i64) 0 zs.toArray cs) e) := by
      unfold putRow mapBlock World.putObj
      congr 1
      apply Array.ext_getElem?
      intro k
      rw [Array.getElem?_modify, Array.getElem?_setIfInBounds]
      by_cases hk : b = k
      · subst hk; rw [if_pos rfl, hheap, if_pos rfl, if_pos hblk]; rfl
      · simp [hk]
    obtain ⟨_, hE, hI'⟩ := inv_pin (o' := .cells (putCells (Value.int .i64) 0 zs.toArray cs) e) hI hp
    rw [← e1] at hE hI'
    obtain ⟨hI2, hE2⟩ := inv_grow hI' n os
    have e2 : grow (putRow (Value.int .i64) (Sort.ahead w n) b 0 zs.toArray) os = grow (Sort.ahead (putRow (Value.int .i64) w b 0 zs.toArray) n) os := rfl
    rw [e2]
    refine ⟨.tuple #[], g, .tuple [], _, he, hE.trans hE2, hI2, .inr (.inl ⟨[], #[], rfl, rfl, by simp [relVs]⟩), hK _ (hx.set h2) (.inr ⟨b, c, i, putCells (Value.int .i64) 0 zs.toArray cs, by rw [hlen], h2, by simp [AST.set, (List.getElem?_eq_some_iff.1 hp).1], by simp [putCells, h4], h5, by omega, ?_⟩)⟩
    intro j x hj
    have hjl : j < zs.length := (List.getElem?_eq_some_iff.1 hj).1
    have hjc : j < cs.size := by omega
    simp only [putCells, Array.getElem?_mapIdx, Nat.sub_zero, Nat.zero_add, Nat.zero_le, true_and, List.size_toArray]
    rw [Array.getElem?_eq_getElem hjc]
    simp only [Option.map_some, if_pos hjl]
    congr 2
    rw [List.getElem?_eq_getElem hjl] at hj
    simp at hj
    simp [hjl, hj]

end Go.Aff

namespace Go.Aff.L10
open Go.Proofs Go.Aff Go.Aff.L01 Classical
set_option maxRecDepth 20000
attribute [-go_sem] cellAt_new
attribute [-simp] List.length_flatMap
attribute [local go_sem] bkeyPs_0 bkeyAt_0 bkeyPs_1 bkeyAt_1 sizes_bkey shapes_bkey fits_bkey zero_bkey zt_bkey Tryz.underlying107
attribute [local go_sem] fits3 zt3
attribute [local go_sem] fits58 stAt Tryz.underlying103 Tryz.underlying105 Tryz.underlying57
noncomputable section
def numsU (B : List Blob) (o : Int) : List Int := (B.filter fun b => decide (b.owner = o)).map (·.num)
def numsB (B : List Blob) (o : Int) : List Int := (numsU B o).mergeSort fun x y => decide (x ≤ y)
end
theorem sorted_unique : ∀ {a b : List Int}, a.Pairwise (· ≤ ·) → b.Pairwise (· ≤ ·) → a.Perm b → a = b
  | [], b, _, _, h => (List.nil_perm.1 h).symm ▸ rfl
  | x :: a, [], _, _, h => by have := h.length_eq; simp at this
  | x :: a, y :: b, ha, hb, h => by
    rw [List.pairwise_cons] at ha hb
    have e : x = y := by
      have h1 := h.mem_iff.1 (List.mem_cons_self (a := x) (l := a))
      have h2 := h.mem_iff.2 (List.mem_cons_self (a := y) (l := b))
      rcases List.mem_cons.1 h1 with h1 | h1
      · exact h1
      · rcases List.mem_cons.1 h2 with h2 | h2
        · exact h2.symm
        · have := ha.1 y h2; have := hb.1 x h1; omega
    subst e
    rw [sorted_unique ha.2 hb.2 ((List.perm_cons _).1 h)]
theorem numsB_sorted {B : List Blob} {o : Int} : (numsB B o).Pairwise (· ≤ ·) := by
  have := List.pairwise_mergeSort (le := fun (x y : Int) => decide (x ≤ y)) (by intro a b c; simp; omega) (by intro a b; simp; omega) (numsU B o)
  exact this.imp fun h => by simpa using h
theorem numsB_perm' {B : List Blob} {o : Int} : (numsB B o).Perm (numsU B o) := List.mergeSort_perm ..
theorem numsU_perm {A B : List Blob} {o : Int} (h : A.Perm B) : (numsU A o).Perm (numsU B o) := (h.filter _).map _
theorem numsB_perm {A B : List Blob} {o : Int} (h : A.Perm B) : numsB A o = numsB B o :=
  sorted_unique numsB_sorted numsB_sorted (numsB_perm'.trans ((numsU_perm h).trans numsB_perm'.symm))
theorem numsU_app {A B : List Blob} {o : Int} : numsU (A ++ B) o = numsU A o ++ numsU B o := by simp [numsU]
theorem numsU_len {B : List Blob} {o : Int} : (numsU B o).length = usedN B o := by simp [numsU, usedN, List.countP_eq_length_filter]
theorem E37 : ElemT Tryz.prog 40 3 1 8 := ⟨rfl, by kernel_rfl, by kernel_rfl, ⟨_, of_eq_true zt3⟩, by decide⟩
theorem fnok25 : FnOk Tryz.prog 47 := ⟨_, Tryz.func47, by kernel_rfl, by kernel_rfl⟩
theorem sort_c {σ0 σ : AST} {v : AV} {xs : List Int} {K : AV → AST → Prop} (hx : Ext σ0 σ) (hv : Lit σ0 σ 3 v xs) (hl : xs.length < 4611686018427387904)
    (hK : ∀ σ', Ext σ0 σ' → Lit σ0 σ' 3 v (xs.mergeSort fun x y => decide (x ≤ y)) → K (.tuple []) σ') : TCalls Tryz.prog 47 [v] σ K :=
  sort_row fnok25 (fun blk off cap zs w h1 h2 h3 => Tryz.slices_Sort_int blk off cap zs w h1 h2 h3) (fun p cap w => Tryz.slices_Sort_int_none p cap w) hx hv hl hK
section
variable {σ0 s : AST} {j mi : Nat} {B : List Blob} {F : List (Nat × AObj)} {K : AV → AST → Prop}
theorem snum_c (h : SF σ0 s j mi B F) (hB : BOk B) {o : Int} (hK : K (.slice .none ((numsB B o).map (AV.int .i64))) s) : TCalls Tryz.prog 19 [.ptr (some (j, [])), .int .i64 o] s K := by
  refine TCalls.freeze (e := 3) ?_ hK
  obtain ⟨E, ck, rfl, hm, hck, hnd⟩ := h.om
  have cj := cellAt_known h.o
  have hlt := h.lt
  refine tcalls_walk Tryz.f19 _ [.tmp 4] Tryz.func19 rfl rfl rfl mixed (Nat.le_of_ble_eq_true rfl) rfl fun hlen => ?_
  repeat' (simp -dsimp only [↓reduceIte, go_sem, cj])
  refine ⟨⟨107, 39, Tryz.underlying103⟩, ?_⟩
  simp only [hm]
  intro l b
  repeat' (simp -dsimp only [↓reduceIte, go_sem])
  have hlen : E.length ≤ 2048 := by have := hB.len; rwa [List.length_map] at this
  have hck' : ∀ e ∈ E.map entB, e.1 < ck := fun e he => by obtain ⟨x, hx, rfl⟩ := List.mem_map.1 he; exact hck x hx
  refine awp_rounds (fun (i : Nat) τ s' => ∃ (D : List (Nat × Blob)) (last : Nat) (v : AV), D.length = i ∧ Met E D ∧ ck ≤ last ∧ Ext s s' ∧ s'.objs[s.objs.length]? = some (iterO l b mi ck (D.map (·.1)).toArray last) ∧ Lit s s' 3 v (numsU (D.map (·.2)) o) ∧ τ 1 = .int .i64 o ∧ τ 5 = v ∧ τ 14 = .ptr (some (s.objs.length, []))) (fun i => E.length - i) 0 ?_ ?_
  · refine ⟨[], ck, .slice .full [], rfl, ⟨by simp, by simp⟩, Nat.le_refl _, Ext.app _ _, by rw [objs_app0]; rfl, Lit.nil, ?_, ?_, ?_⟩ <;> (try simp only [go_sem]) <;> (try rfl)
  · rintro i τ s' ⟨D, last, v, hDl, hD, hla, hx, hit, hL, t1, t5, t14⟩
    have hm' := ext_knownB hx hm
    have hDlen := hD.len
    repeat' (simp -dsimp only [↓reduceIte, go_sem, t1, t5, t14])
    refine ⟨rfl, s.objs.length, l, b, mi, ck, _, last, _, _, rfl, hit, hm', hck', hla, fun e he hne => ?_, fun hall => ?_⟩
    · obtain ⟨e, he0, rfl⟩ := List.mem_map.1 he
      have hne' : ¬ e.1 ∈ D.map (·.1) := by simpa [entB] using hne
      have hD' := hD.add he0 hne'
      have hl2 := hD'.len
      rw [List.length_append] at hl2
      simp only [List.length_singleton] at hl2
      have hil := cell_ltB hit
      have oit : ∀ l, ((s'.set s.objs.length (iterO l b mi ck ((D.map (·.1)).toArray.push (entB e).1) ck))).objs[s.objs.length]? = some (iterO l b mi ck ((D.map (·.1)).toArray.push (entB e).1) ck) := fun l => objs_setSB hil
      have omi : ∀ o, (s'.set s.objs.length o).objs[mi]? = some (.map (E.map entB) ck) := fun o => by rw [objs_setNB (by omega)]; exact hm'
      repeat' (simp -dsimp only [↓reduceIte, go_sem, t1, t5, t14])
      refine ⟨s.objs.length, l, b, mi, ck, (D.map (·.1)).toArray, _, entB e, ck, rfl, oit _, omi _, he, ?_⟩
      have hx3 := hx.set (o := iterO l b mi ck ((D.map (·.1)).toArray.push (entB e).1) ck) (Nat.le_refl s.objs.length)
      have hL3 : Lit s (s'.set s.objs.length (iterO l b mi ck ((D.map (·.1)).toArray.push (entB e).1) ck)) 3 v (numsU (D.map (·.2)) o) := hL.keep fun q o ho hr => by
        rw [objs_setNB]
        · exact ho
        · rintro rfl; rw [hit] at ho; cases ho; cases hr
      have oit3 : (s'.set s.objs.length (iterO l b mi ck ((D.map (·.1)).toArray.push (entB e).1) ck)).objs[s.objs.length]? = some (iterO l b mi ck ((D ++ [e]).map (·.1)).toArray ck) := by
        rw [objs_setSB hil]
        have : (D.map (·.1)).toArray.push (entB e).1 = ((D ++ [e]).map (·.1)).toArray := by simp [entB]
        rw [this]
      generalize s'.set s.objs.length (iterO l b mi ck ((D.map (·.1)).toArray.push (entB e).1) ck) = s3 at *
      have k1 : (entB e).2.1 = .agg (bkeyPs (kOf e.2)) := rfl
      have k2 : (entB e).2.2 = .agg (blobPs e.2) := rfl
      have k3 : (kOf e.2).owner = e.2.owner := rfl
      have k4 : (kOf e.2).num = e.2.num := rfl
      have hn := usedN_le (L := D.map (·.2)) (o := o)
      rw [List.length_map] at hn
      have hnl : (numsU (D.map (·.2)) o).length ≤ 2048 := by rw [numsU_len]; omega
      have hLA : ∀ q, Lit s (s3.app q) 3 v (numsU (D.map (·.2)) o) := fun q => hL3.keep fun j o ho _ => objs_known_app ho _
      by_cases ho : e.2.owner = o
      · have d1 : numsU ((D ++ [e]).map (·.2)) o = numsU (D.map (·.2)) o ++ [e.2.num] := by rw [List.map_append, numsU_app]; simp [numsU, ho]
        have hq : (e.2.owner == o) = true := by simp [ho]
        repeat' (first | (simp -dsimp only [↓reduceIte, go_sem, t1, t5, t14, k1, k2, k3, k4, hq]) | (refine build_slice E37 rfl (by decide) (by intro v hv; simp at hv; try (subst hv; simp [go_sem])) ?_))
        refine append_lit E37 ⟨_, of_eq_true zt3, rfl⟩ rfl (hx3.trans (Ext.app _ _)) (hLA _) (by omega) (by simp only [maxL]; omega) fun v' s4 hx4 hL4 hk4 _ => ?_
        rw [← d1] at hL4
        have oit4 := hk4 _ _ (objs_known_app oit3 _) rfl
        repeat' (simp -dsimp only [↓reduceIte, go_sem, t1, t5, t14])
        refine later_intro ⟨i + 1, by omega, D ++ [e], ck, v', by simp [hDl], hD', Nat.le_refl _, hx4, oit4, hL4, ?_, ?_, ?_⟩ <;> (try simp only [go_sem, t1, t5, t14]) <;> (try rfl)
      · have d1 : numsU ((D ++ [e]).map (·.2)) o = numsU (D.map (·.2)) o := by rw [List.map_append, numsU_app]; simp [numsU, ho]
        have hq : (e.2.owner == o) = false := by simp [ho]
        repeat' (simp -dsimp only [↓reduceIte, go_sem, t1, t5, t14, k1, k2, k3, k4, hq])
        refine later_intro ⟨i + 1, by omega, D ++ [e], ck, v, by simp [hDl], hD', Nat.le_refl _, hx3.trans (Ext.app _ _), objs_known_app oit3 _, by rw [d1]; exact hLA _, ?_, ?_, ?_⟩ <;> (try simp only [go_sem, t1, t5, t14]) <;> (try rfl)
    · have hperm := hD.all hnd fun e he => by
        have := hall (entB e) (List.mem_map_of_mem he)
        simpa [entB] using this
      have e1 := numsB_perm (hperm.map (·.2)) (o := o)
      have hn := usedN_le (L := D.map (·.2)) (o := o)
      rw [List.length_map] at hn
      have hnl : (numsU (D.map (·.2)) o).length ≤ 2048 := by rw [numsU_len]; omega
      repeat' (simp -dsimp only [↓reduceIte, go_sem, t1, t5, t14])
      refine sort_c hx hL (by omega) fun s5 hx5 hL5 => ?_
      have e2 : ((numsU (D.map (·.2)) o).mergeSort fun x y => decide (x ≤ y)) = numsB (E.map (·.2)) o := e1
      rw [e2] at hL5
      repeat' (simp -dsimp only [↓reduceIte, go_sem, t1, t5, t14])
      exact ⟨hx5, hL5⟩
end
section
variable {σ0 s s2 : AST} {k : Nat} {B : List Blob} {F : List (Nat × AObj)} {K : AV → AST → Prop}
end
attribute [local go_sem] fits28p srvPs_1 srvPs_2 srvAt_1 srvAt_2 Tryz.underlying68 Tryz.underlying23
attribute [local go_sem] fits23r arrV_none arrV_some
attribute [local go_sem] isAgg_arr size_arr shape_arr known_arr
section
variable {σ0 s : AST} {A : Ads} {n : Int} {M N : Reg} {B C : List Blob} {F : List (Nat × AObj)} {K : AV → AST → Prop}
theorem svRegs_c (h : Sv σ0 s A n M N B C F) (hK : K (.ptr (some (A.j, []))) s) : TCalls Tryz.prog 15 [.ptr (some (A.q, []))] s K := by
  have cq := cellAt_known h.q
  refine tcalls_walk Tryz.f15 _ [.tmp 2] Tryz.func15 rfl rfl rfl mixed (Nat.le_of_ble_eq_true rfl) rfl fun hlen => ?_
  repeat' (simp -dsimp only [↓reduceIte, go_sem, cq])
  exact hK
theorem svBlobs_c (h : Sv σ0 s A n M N B C F) (hK : K (.ptr (some (A.b, []))) s) : TCalls Tryz.prog 18 [.ptr (some (A.q, []))] s K := by
  have cq := cellAt_known h.q
  refine tcalls_walk Tryz.f18 _ [.tmp 2] Tryz.func18 rfl rfl rfl mixed (Nat.le_of_ble_eq_true rfl) rfl fun hlen => ?_
  repeat' (simp -dsimp only [↓reduceIte, go_sem, cq])
  exact hK
theorem svNumber_c (h : Sv σ0 s A n M N B C F) (hM : M.Ok) {i : Int} (hi : M.has i) (hK : K (.int .i64 (M.cli i).last.num) s) : TCalls Tryz.prog 16 [.ptr (some (A.j, [])), .int .i64 i] s K := by
  obtain ⟨R, hR, hP⟩ := h.r.p
  have hRn : R.n = M.n := by rw [← hR]; rfl
  have hi0 := hi.1
  have hi1 := hi.2
  have hn8 := hM.n8
  have e : ((i.toNat : Nat) : Int) = i := Int.toNat_of_nonneg hi0
  obtain ⟨tc, hc⟩ := cli_get hP.h8 hi0 (by omega)
  have hcl : cliOf R i = M.cli i := by rw [← hR]; exact cliOf_plain
  rw [hcl] at hc
  have := rgNumber_c (K := K) hP hc (by rw [e]; omega) hK
  rw [e] at this; exact this
theorem svView_c (h : Sv σ0 s A n M N B C F) (hM : M.Ok) {i : Int} (hi : M.has i) (hK : K (.str (M.cli i).view) s) : TCalls Tryz.prog 17 [.ptr (some (A.j, [])), .int .i64 i] s K := by
  obtain ⟨R, hR, hP⟩ := h.r.p
  have hRn : R.n = M.n := by rw [← hR]; rfl
  have hi0 := hi.1
  have hi1 := hi.2
  have hn8 := hM.n8
  have e : ((i.toNat : Nat) : Int) = i := Int.toNat_of_nonneg hi0
  obtain ⟨tc, hc⟩ := cli_get hP.h8 hi0 (by omega)
  have hcl : cliOf R i = M.cli i := by rw [← hR]; exact cliOf_plain
  rw [hcl] at hc
  have := rgView_c (K := K) hP hc (by rw [e]; omega) hK
  rw [e] at this; exact this
end
end Go.Aff.L10

namespace Go.Aff.L10
open Go.Proofs Go.Aff Go.Aff.L01 Classical
structure Reg.Fine (M : Reg) : Prop where
  by_ : In (-1) 7 M.by_
  bl : M.long = [] ↔ M.by_ = -1
  long : ViewOk 8 M.long
  pend : ∀ p ∈ M.pend, p.Ok
  cs : ∀ c ∈ M.cs, ViewOk 8 c.view ∧ In 0 512 c.last.num ∧ c.last.value.length ≤ 256 ∧ (0 < c.last.num → c.reply.Ok)
theorem view_nil : ViewOk 8 [] := ⟨by simp, by simp, by omega, by omega⟩
namespace Reg
variable {M : Reg} {n : Int} {x : Sub} {v : List UInt8} {t : Dig}
theorem reg0_fine : (reg0 n).Fine := by
  refine ⟨by simp [In, reg0], by simp [reg0], view_nil, by simp [reg0], fun c hc => ?_⟩
  simp only [reg0] at hc
  obtain ⟨_, rfl⟩ := List.mem_replicate.1 hc
  exact ⟨view_nil, by simp [In, cli0, sub0], by simp [cli0, sub0], fun h => by simp [cli0, sub0] at h⟩
theorem ans_ok (hM : M.Ok) (hF : M.Fine) (hx : x.Ok) (ht : M.has x.target) : (M.ans x).Ok := by
  have hp : ∀ p ∈ M.pend.map M.ansP, p.Ok := fun p hp => by
    obtain ⟨q, hq, rfl⟩ := List.mem_map.1 hp
    exact hF.pend q hq
  have hl : (M.pend.map M.ansP).length ≤ 8 := by rw [List.length_map]; exact hM.pl
  obtain ⟨c1, c2, c3, c4⟩ := hF.cs _ (hM.cli_mem ht)
  unfold ans
  split
  · exact ⟨hp, hx.1, hF.by_, hF.bl, hl, hF.long, c1, c2, c3⟩
  · exact ⟨hp, hx.1, hF.by_, hF.bl, hl, hF.long, view_nil, by simp [In], by simp⟩
theorem sub_ok (h : (subM n x).Ok) : x.Ok := by have := h.1; simpa [Msg.FieldsOk, subM] using this
theorem com_ok (h : (comM n v t).Ok) : v ≠ [] ∧ ViewOk 8 v := by have := h.1; simpa [Msg.FieldsOk, comM] using this
theorem submit_cases (M : Reg) (n : Int) (x : Sub) : ((M.submit n x).1 = M ∧ (M.submit n x).2.2 ≠ 0) ∨
    (M.submit n x = (M, (M.cli n).reply, 0) ∧ (subM n x).Ok ∧ M.has n ∧ M.has x.target ∧ x = (M.cli n).last) ∨
    (M.submit n x = ({ M.setC n { M.cli n with last := x, reply := M.ans x } with pend := M.pend ++ [newP n x] }, M.ans x, 0) ∧ (subM n x).Ok ∧ M.has n ∧ M.has x.target) := by
  by_cases hb : ¬ (subM n x).Ok ∨ ¬ M.has n ∨ ¬ M.has x.target
  · left; unfold submit; rw [if_pos hb]; exact ⟨rfl, by simp⟩
  · have hok : (subM n x).Ok := Classical.byContradiction fun e => hb (.inl e)
    have hn : M.has n := Classical.byContradiction fun e => hb (.inr (.inl e))
    have hx : M.has x.target := Classical.byContradiction fun e => hb (.inr (.inr e))
    by_cases e1 : x.num = (M.cli n).last.num
    · by_cases e2 : x = (M.cli n).last
      · right; left; refine ⟨?_, hok, hn, hx, e2⟩; unfold submit; rw [if_neg hb, if_pos e1, if_pos e2]
      · left; unfold submit; rw [if_neg hb, if_pos e1, if_neg e2]; exact ⟨rfl, by simp⟩
    · by_cases e3 : x.num ≠ (M.cli n).last.num + 1
      · left; unfold submit; rw [if_neg hb, if_neg e1, if_pos e3]; exact ⟨rfl, by simp⟩
      · by_cases e4 : 512 ≤ M.order.length ∨ 8 ≤ M.pend.length
        · left; unfold submit; rw [if_neg hb, if_neg e1, if_neg e3, if_pos e4]; exact ⟨rfl, by simp⟩
        · right; right; refine ⟨?_, hok, hn, hx⟩; unfold submit; rw [if_neg hb, if_neg e1, if_neg e3, if_neg e4]
theorem has8 (hM : M.Ok) (hn : M.has n) : In 0 7 n := by have := hM.n8; obtain ⟨a, b⟩ := hn; simp only [In]; omega
theorem submit_fine (hM : M.Ok) (hF : M.Fine) : (M.submit n x).1.Fine := by
  rcases submit_cases M n x with ⟨e, _⟩ | ⟨e, _⟩ | ⟨e, hok, hn, hx⟩
  · rw [e]; exact hF
  · rw [e]; exact hF
  · rw [e]
    have hxo := sub_ok hok
    refine ⟨hF.by_, hF.bl, hF.long, fun p hp => ?_, fun c hc => ?_⟩
    · rcases List.mem_append.1 hp with hp | hp
      · exact hF.pend p hp
      · simp at hp; subst hp
        exact ⟨has8 hM hn, hxo.2.2.1, hxo.1, hxo.2.1⟩
    · rcases mem_setC hc with rfl | hc
      · have hv := (hF.cs _ (hM.cli_mem hn)).1
        have h1 := hxo.1
        exact ⟨hv, ⟨by have := h1.1; show 0 ≤ x.num; omega, h1.2⟩, hxo.2.2.2, fun _ => ans_ok hM hF hxo hx⟩
      · exact hF.cs c hc
theorem commit_cases (M : Reg) (n : Int) (v : List UInt8) (t : Dig) : (M.commit n v t).1 = M ∨
    ((comM n v t).Ok ∧ M.has n ∧ ¬ (((v.getLast?.getD 0).toNat : Int) ≠ n ∨ (Go.Aff.L09.cnt n v : Int) ≠ (M.cli n).last.num) ∧
      ((M.commit n v t).1 = M.setC n { M.cli n with view := v, tag := t } ∨
        (M.commit n v t).1 = { M.setC n { M.cli n with view := v, tag := t } with by_ := n, long := v, tag := t, pend := cut n (Go.Aff.L09.cnt n v) M.pend })) := by
  by_cases hb : ¬ (comM n v t).Ok ∨ ¬ M.has n
  · left; unfold commit; rw [if_pos hb]
  · have hok : (comM n v t).Ok := Classical.byContradiction fun e => hb (.inl e)
    have hn : M.has n := Classical.byContradiction fun e => hb (.inr e)
    by_cases e1 : ((v.getLast?.getD 0).toNat : Int) ≠ n ∨ (Go.Aff.L09.cnt n v : Int) ≠ (M.cli n).last.num
    · left; unfold commit; rw [if_neg hb, if_pos e1]
    · by_cases e2 : Go.Aff.L09.cnt n (M.cli n).view = Go.Aff.L09.cnt n v
      · left; unfold commit; rw [if_neg hb, if_neg e1, if_pos e2]
      · right
        refine ⟨hok, hn, e1, ?_⟩
        by_cases e3 : v.length ≤ M.long.length
        · left; unfold commit; rw [if_neg hb, if_neg e1, if_neg e2, if_pos e3]
        · right; unfold commit; rw [if_neg hb, if_neg e1, if_neg e2, if_neg e3]
theorem commit_fine (hM : M.Ok) (hF : M.Fine) : (M.commit n v t).1.Fine := by
  have hset : (comM n v t).Ok → M.has n → (M.setC n { M.cli n with view := v, tag := t }).Fine := fun hok hn => by
    refine ⟨hF.by_, hF.bl, hF.long, hF.pend, fun c hc => ?_⟩
    rcases mem_setC hc with rfl | hc
    · obtain ⟨_, c2, c3, c4⟩ := hF.cs _ (hM.cli_mem hn)
      exact ⟨(com_ok hok).2, c2, c3, c4⟩
    · exact hF.cs c hc
  rcases commit_cases M n v t with e | ⟨hok, hn, _, e | e⟩
  · rw [e]; exact hF
  · rw [e]; exact hset hok hn
  · rw [e]
    have h := hset hok hn
    have h8 := has8 hM hn
    refine ⟨⟨by have := h8.1; show -1 ≤ n; omega, h8.2⟩, ?_, (com_ok hok).2, fun p hp => hF.pend p (cut_sub.subset hp), h.cs⟩
    have := (com_ok hok).1
    have := h8.1
    constructor
    · intro e; exact absurd e (by assumption)
    · intro e; simp only at e; omega
theorem submit_other (hM : M.Ok) {o : Int} (ho : M.has o) (h : o ≠ n) : (M.submit n x).1.cli o = M.cli o := by
  rcases submit_cases M n x with ⟨e, _⟩ | ⟨e, _⟩ | ⟨e, hok, hn, hx⟩
  · rw [e]
  · rw [e]
  · rw [e]
    show (M.setC n _).cli o = _
    rw [cli_setC hM hn ho, if_neg h]
theorem commit_other (hM : M.Ok) {o : Int} (ho : M.has o) (h : o ≠ n) : (M.commit n v t).1.cli o = M.cli o := by
  rcases commit_cases M n v t with e | ⟨hok, hn, he, e | e⟩
  · rw [e]
  · rw [e, cli_setC hM hn ho, if_neg h]
  · rw [e]
    show (M.setC n _).cli o = _
    rw [cli_setC hM hn ho, if_neg h]
end Reg
section
variable {M : Reg} {B : List Blob} {c : Int} {b : List UInt8}
theorem onR_fine (hM : M.Ok) (hF : M.Fine) : (onR M c b).Fine := by
  unfold onR
  split
  · split
    · exact Reg.submit_fine hM hF
    · split
      · exact Reg.commit_fine hM hF
      · exact hF
  · exact hF
noncomputable def own (B : List Blob) (o : Int) : List Blob := B.filter fun b => decide (b.owner = o)
theorem nums_own {B : List Blob} {o : Int} : numsB B o = ((own B o).map (·.num)).mergeSort fun x y => decide (x ≤ y) := rfl
theorem own_put {x : Blob} {o : Int} (h : x.owner ≠ o) : own (bput B x).1 o = own B o := by
  unfold bput
  split
  · rfl
  split
  · split <;> rfl
  · split
    · rfl
    · simp [own, h]
theorem own_erase {B : List Blob} {i : Nat} {b : Blob} {o : Int} (hb : B[i]? = some b) (h : b.owner ≠ o) : own (B.eraseIdx i) o = own B o := by
  obtain ⟨e1, e2⟩ := erase_split hb
  rw [e2]
  conv => rhs; rw [e1]
  simp [own, h]
theorem own_prune {o o' : Int} (h : o' ≠ o) : ∀ (l : List Int) (B : List Blob) (n : Nat), own (l.foldl (fun s n => ((bprune1 s.1 o' n).1, s.2 + (bprune1 s.1 o' n).2)) (B, n)).1 o = own B o
  | [], _, _ => rfl
  | x :: l, B, n => by
    rw [List.foldl_cons, own_prune h l]
    unfold bprune1
    split
    · rename_i i hf
      obtain ⟨b, hb, ho, _⟩ := bfind_some hf
      exact own_erase hb (by rw [ho]; exact h)
    · rfl
theorem onB_other {o : Int} (h : o ≠ c) : numsB (onB M B c b) o = numsB B o := by
  rw [nums_own, nums_own]
  have : own (onB M B c b) o = own B o := by
    unfold onB
    split
    · split
      · rename_i h4; exact own_put (by rw [h4.2]; exact Ne.symm h)
      · split
        · exact own_prune (Ne.symm h) _ _ _
        · rfl
    · rfl
  rw [this]
theorem onR_other (hM : M.Ok) {o : Int} (ho : M.has o) (h : o ≠ c) : (onR M c b).cli o = M.cli o := by
  unfold onR
  split
  · split
    · exact Reg.submit_other hM ho h
    · split
      · exact Reg.commit_other hM ho h
      · rfl
  · rfl
end
end Go.Aff.L10

namespace Go.Aff.L10
open Go.Proofs Go.Aff Go.Aff.L01 Classical
set_option maxRecDepth 20000
attribute [-go_sem] cellAt_new
attribute [-simp] List.length_flatMap
attribute [local go_sem] fits3
attribute [local go_sem] fits28p srvPs_0 srvPs_1 srvPs_2 srvSet_0 srvSet_1 srvSet_2 srvAt_0 srvAt_1 srvAt_2 zero_srv zt_srv built_srv
attribute [local go_sem] fits23r arrV_none arrV_some
attribute [local go_sem] zero_rst zt_rst built_rst
attribute [local go_sem] rfPs_0 rfPs_1 rfSet_0 rfSet_1 rfAt_0 rfAt_1 zero_rf zt_rf built_rf fits71p fits73p
def rgZ (n : Int) : Rg := ⟨n, List.replicate 8 (.full, cli0), -1, [], dig0, []⟩
theorem rgZ_plain {n : Int} : (rgZ n).plain = reg0 n := by simp [Rg.plain, rgZ, reg0]
structure New13 (σ s : AST) (n : Int) (q j b mi : Nat) : Prop where
  p : PF σ s j (rgZ n) [(q, srvO n j b)]
  f : SF σ s b mi [] [(q, srvO n j b)]
  jb : j ≠ b
  jm : j ≠ mi
theorem srvNew_c {n : Int} {σ : AST} {K : AV → AST → Prop} (h2 : 2 ≤ n) (h8 : n ≤ 8) (hK : ∀ s' q j b mi, New13 σ s' n q j b mi → K (.tuple [.ptr (some (q, [])), .int .i64 0]) s') : TCalls Tryz.prog 7 [.int .i64 n] σ K := by
  refine tcalls_walk Tryz.f7 _ [.tmp 2, .tmp 3] Tryz.func7 rfl rfl rfl mixed (Nat.le_of_ble_eq_true rfl) rfl fun hlen => ?_
  repeat' (simp -dsimp only [↓reduceIte, go_sem])
  refine rgNew_c (fun e => absurd e (by omega)) (fun _ s1 hp => ?_)
  have hpl : σ.objs.length < s1.objs.length := by obtain ⟨t, o⟩ := hp.o; exact (List.getElem?_eq_some_iff.1 o).1
  repeat' (simp -dsimp only [↓reduceIte, go_sem])
  refine snew_c fun s2 b mi h2 => ?_
  have h2l := h2.lt
  have h3 := h2.box (srvO n σ.objs.length b)
  have hx := h3.x
  have hx1 : Ext σ s1 := hp.x
  have hp3 := hp.ext hx
  repeat' (simp -dsimp only [↓reduceIte, go_sem])
  refine hK _ _ σ.objs.length b mi ⟨⟨hp3.x, hp3.jn, hp3.h8, hp3.o, fun y hy => ?_⟩, ⟨hx1.trans hx, ?_, ?_, h3.jm, h3.o, h3.om, h3.f⟩, ?_, ?_⟩
  · simp only [List.mem_cons, List.not_mem_nil, or_false] at hy
    subst hy
    exact ⟨by show s2.objs.length ≠ σ.objs.length; have := h2.jn; omega, objs_app0⟩
  · have := h3.jn; omega
  · have := h3.mn; omega
  · have := h3.jn; omega
  · have := h3.mn; omega
theorem refNew13_c {σ s : AST} {n : Int} {q j b mi : Nat} {K : AV → AST → Prop} (h2 : 2 ≤ n) (h8 : n ≤ 8) (h : New13 σ s n q j b mi) (hK : ∀ s' A, A.q = q → Sv σ s' A n (reg0 n) (reg0 n) [] [] [] → K (.ptr (some (A.x, []))) s') : TCalls Tryz.prog 9 [.int .i64 n] s K := by
  refine tcalls_walk Tryz.f9 _ [.tmp 2] Tryz.func9 rfl rfl rfl mixed (Nat.le_of_ble_eq_true rfl) rfl fun hlen => ?_
  repeat' (simp -dsimp only [↓reduceIte, go_sem])
  refine refNew_c h2 h8 fun s1 k i1 i2 i3 i4 hq => ?_
  have hlt := hq.lt
  repeat' (simp -dsimp only [↓reduceIte, go_sem])
  have hx : Ext s (s1.app [.cells (.agg (rstPs .full rst0)), .cells (.agg (rfPs (some (k, [])) (some (s1.objs.length, []))))]) := hq.x.trans (Ext.app _ _)
  have hsl : s.objs.length ≤ s1.objs.length := by obtain ⟨O, T, e⟩ := hq.x; rw [e]; simp
  have hσ : σ.objs.length ≤ s.objs.length := by obtain ⟨O, T, e⟩ := h.p.x; rw [e]; simp
  have hp := h.p.ext hx
  have hf := h.f.ext hx
  have hq1 := hq.ext (Ext.app s1 [.cells (.agg (rstPs .full rst0)), .cells (.agg (rfPs (some (k, [])) (some (s1.objs.length, []))))])
  have lj : j < s.objs.length := by obtain ⟨t, o⟩ := h.p.o; exact (List.getElem?_eq_some_iff.1 o).1
  have lb := h.f.lt
  have oq := (h.p.f _ (List.mem_cons_self ..)).2
  have lq : q < s.objs.length := (List.getElem?_eq_some_iff.1 oq).1
  have jn := hq.jn
  simp only [List.mem_cons, List.not_mem_nil, or_false, forall_eq_or_imp, forall_eq] at jn
  obtain ⟨n0, n1, n2, n3, n4⟩ := jn
  have nq := (h.p.f _ (List.mem_cons_self ..)).1
  have nf := (h.f.f _ (List.mem_cons_self ..))
  dsimp only at nq nf
  have ob : (s1.app [.cells (.agg (rstPs .full rst0)), .cells (.agg (rfPs (some (k, [])) (some (s1.objs.length, []))))]).objs[s1.objs.length]? = some (.cells (.agg (rstPs .full ⟨[]⟩))) := by rw [objs_app0]; rfl
  refine hK _ ⟨q, s1.objs.length + 1, j, k, i1, i2, i3, i4, b, mi, s1.objs.length⟩ rfl ⟨⟨⟨rgZ n, rgZ_plain, ⟨hp.x, hp.jn, hp.h8, hp.o, by simp⟩⟩, ⟨hp.x, ?_, hq1.nd, hq1.n0, hq1.n8, hq1.l1, hq1.l2, hq1.l3, hq1.l4, hq1.o, hq1.o1, hq1.o2, hq1.o3, hq1.o4, by simp⟩, ?_⟩,
    ⟨⟨hf.x, hf.jn, hf.mn, hf.jm, hf.o, hf.om, by simp⟩, ⟨hf.x, ?_, ⟨.full, ob⟩, by simp⟩, ?_, ?_⟩, ?_, ext_known hx oq, ?_, ?_, ?_, by simp⟩
  · intro i hi
    simp only [List.mem_cons, List.not_mem_nil, or_false] at hi
    rcases hi with rfl | rfl | rfl | rfl | rfl <;> omega
  · simp only [List.mem_cons, List.not_mem_nil, or_false]; omega
  · show σ.objs.length ≤ s1.objs.length; omega
  · show s1.objs.length ≠ b; omega
  · show s1.objs.length ≠ mi; omega
  · have := h.jb
    have := h.jm
    intro i hi
    simp only [Ads.regs, Ads.blobs, List.mem_cons, List.not_mem_nil, or_false] at hi ⊢
    omega
  · rw [objs_app]; rfl
  · simp only [Ads.regs, Ads.blobs, List.mem_append, List.mem_cons, List.not_mem_nil, or_false]; omega
  · simp only [Ads.regs, Ads.blobs, List.mem_append, List.mem_cons, List.not_mem_nil, or_false]; omega
end Go.Aff.L10

