import Derived.Test.YtikbkaedemmpmaaGreatG10
import Derived.Test.YtikbkaedemmpmaaGreatG9

set_option linter.unusedSimpArgs false
set_option linter.unusedVariables false

namespace Go.Aff.L10
open Go.Proofs Go.Aff Go.Aff.L01 Classical
set_option maxRecDepth 20000
attribute [-go_sem] cellAt_new
attribute [-simp] List.length_flatMap
attribute [local go_sem] Tryz.underlying4 Tryz.underlying9 Tryz.underlying35 Tryz.underlying40 sizes_sub shapes_sub fits_sub pendPs_0 pendAt_0 pendPs_1 pendAt_1 pendPs_2 pendAt_2 pendPs_3 pendAt_3 sizes_pend shapes_pend fits_pend zero_pend zt_pend Tryz.underlying138 repPs_0 repAt_0 repPs_1 repAt_1 repPs_2 repAt_2 repPs_4 repAt_4 repPs_5 repAt_5 repPs_6 repAt_6 repPs_8 repAt_8 sizes_rep shapes_rep fits_rep Tryz.underlying37 sizes_blob shapes_blob fits_blob msgPs_0 msgAt_0 msgSet_0 msgPs_1 msgAt_1 msgSet_1 msgPs_2 msgAt_2 msgSet_2 msgPs_3 msgAt_3 msgSet_3 msgPs_4 msgAt_4 msgSet_4 msgPs_5 msgAt_5 msgSet_5 msgPs_6 msgAt_6 msgSet_6 msgPs_7 msgAt_7 msgSet_7 msgPs_8 msgAt_8 msgSet_8 msgPs_9 msgAt_9 msgSet_9 sizes_msg shapes_msg fits_msg zero_msg zt_msg built_msg Tryz.underlying42
attribute [local go_sem] fits3 fits9 fits23 fits26 fits31
attribute [local go_sem] bin_bool_ne

theorem numbers_c {l : List Int} {tk : Tk} {σ : AST} {K : AV → AST → Prop} (hK : K (.bool (decide (NumsOk l))) σ) : TCalls Tryz.prog 131 [.slice tk (l.map (AV.int .i64))] σ K := by
  refine tcalls_walk Tryz.f131 _ [.tmp 2] Tryz.func131 rfl rfl rfl mixed (Nat.le_of_ble_eq_true rfl) rfl fun hlen => ?_
  have hll : l.length ≤ 9223372036854775807 := by simpa [maxL, lenOk] using hlen _ (List.mem_cons_self ..)
  simp -dsimp only [↓reduceIte, go_sem]
  refine arr_intro fun _ => ?_
  simp -dsimp only [↓reduceIte, go_sem]
  refine awp_rounds (fun (i : Nat) τ s => s = σ ∧ i ≤ l.length ∧ (∀ (j : Nat) n, j < i → l[j]? = some n → In 0 1099511627776 n ∧ ∀ m, 0 < j → l[j - 1]? = some m → m < n) ∧ τ 0 = .slice tk (l.map (AV.int .i64)) ∧ τ 5 = .slice tk (l.map (AV.int .i64)) ∧ τ 6 = .int .i64 l.length ∧ τ 7 = .int .i64 i) (fun i => l.length - i) 0 ?_ ?_
  · refine ⟨rfl, by omega, fun j y h => by omega, ?_, ?_, ?_, ?_⟩ <;> (try simp only [go_sem]) <;> rfl
  · rintro i τ s ⟨rfl, hi, hall, t0, t5, t6, t7⟩
    simp -dsimp only [↓reduceIte, go_sem, t0, t5, t6, t7]
    refine boolW_split (fun hb => ?_) (fun hb => ?_)
    · have hb : i < l.length := by simp at hb; omega
      obtain ⟨y, hy, hm⟩ := get_of_lt hb
      have step : In 0 1099511627776 y → (∀ m, 0 < i → l[i - 1]? = some m → m < y) → ∀ (j : Nat) n, j < i + 1 → l[j]? = some n → In 0 1099511627776 n ∧ ∀ m, 0 < j → l[j - 1]? = some m → m < n := fun h1 h2 j n hj hn => by
        by_cases hji : j < i
        · exact hall j n hji hn
        · obtain rfl : j = i := by omega
          rw [hy] at hn; cases hn; exact ⟨h1, h2⟩
      repeat' (first | (simp -dsimp only [↓reduceIte, go_sem, t0, t5, t6, t7]) | (rw [wrap_i64 (by omega) (by omega)]) | (refine guardV_split (fun h => ?_) (fun h => ?_) <;> (try rw [h]) <;> (try simp at h) <;> (try (exfalso; omega))) | (refine nth_get hy ?_) | (refine nth_pred hy (by omega) ?_) | (refine within_c ?_) | fail)
      · refine bool_endD hK ?_
        simp only [Bool.false_eq_true, false_iff]
        intro h; have := (h.1 i y hy).2 _ (by assumption) (get_pred hy (by assumption)); omega
      · refine later_intro ⟨i + 1, by omega, rfl, by omega, step (by assumption) (fun m h0 hm => by rw [get_pred hy h0] at hm; cases hm; omega), ?_, ?_, ?_, ?_⟩ <;> (try simp only [go_sem, t0, t5, t6, t7]) <;> rfl
      · refine later_intro ⟨i + 1, by omega, rfl, by omega, step (by assumption) (fun m h0 hm => by omega), ?_, ?_, ?_, ?_⟩ <;> (try simp only [go_sem, t0, t5, t6, t7]) <;> rfl
      · refine bool_endD hK ?_
        simp only [Bool.false_eq_true, false_iff]
        intro h; exact absurd (h.1 i y hy).1 (by assumption)
    · have hb : i = l.length := by simp at hb; omega
      subst hb
      repeat' (first | (simp -dsimp only [↓reduceIte, go_sem, t0, t5, t6, t7]) | (refine arr_intro fun _ => ?_) | (refine within_c ?_) | fail)
      refine bool_endD hK ?_
      simp only [decide_eq_true_eq]
      exact ⟨fun h => ⟨fun j n hn => hall j n (List.getElem?_eq_some_iff.1 hn).1 hn, h⟩, fun h => h.2⟩
theorem view_last {l : List UInt8} {n : Int} : (l.isEmpty = (n == -1)) ↔ (l = [] ↔ n = -1) := by rw [Bool.eq_iff_iff]; simp
theorem reply_c {x : Rep} {tk : Tk} {σ : AST} {K : AV → AST → Prop} (hK : K (.bool (decide x.Ok)) σ) : TCalls Tryz.prog 128 [repV tk x] σ K := by
  refine TCalls.drop ?_
  refine tcalls_walk Tryz.f128 _ [.tmp 2] Tryz.func128 rfl rfl rfl mixed (Nat.le_of_ble_eq_true rfl) rfl fun hlen => ?_
  simp -dsimp only [↓reduceIte, go_sem]
  refine arr_intro fun _ => ?_
  simp -dsimp only [↓reduceIte, go_sem]
  have hll : x.pending.length ≤ 9223372036854775807 := by simpa [maxL] using ‹x.pending.length ≤ maxL›
  have bad : ∀ s, Ext σ s → ¬ x.Ok → Ext σ s ∧ (AV.bool false).noRef = true ∧ K (AV.bool false).strip σ := fun s hx h => bool_endDX hx hK (by simpa using h)
  generalize hO : AObj.cells (repV tk x) = O
  refine awp_rounds (fun (i : Nat) τ s => Ext (σ.app [O]) s ∧ i ≤ x.pending.length ∧ (∀ (j : Nat) p, j < i → x.pending[j]? = some p → p.Ok) ∧ τ 1 = .ptr (some (σ.objs.length, [])) ∧ τ 6 = .slice tk (x.pending.map pendV) ∧ τ 7 = .int .i64 x.pending.length ∧ τ 8 = .int .i64 i) (fun i => x.pending.length - i) 0 ?_ ?_
  · refine ⟨Ext.refl _, by omega, fun j y h => by omega, ?_, ?_, ?_, ?_⟩ <;> (try simp only [go_sem]) <;> rfl
  · rintro i τ s ⟨hx, hi, hall, t1, t6, t7, t8⟩
    have hxx : Ext σ s := (Ext.app _ _).trans hx
    simp -dsimp only [↓reduceIte, go_sem, t1, t6, t7, t8]
    refine boolW_split (fun hb => ?_) (fun hb => ?_)
    · have hb : i < x.pending.length := by simp at hb; omega
      obtain ⟨y, hy, hm⟩ := get_of_lt hb
      repeat' (first | (simp -dsimp only [↓reduceIte, go_sem, t1, t6, t7, t8]) | (rw [wrap_i64 (by omega) (by omega)]) | (refine guardV_split (fun h => ?_) (fun h => ?_) <;> (try rw [h]) <;> (try simp at h) <;> (try (exfalso; omega))) | (refine nth_get hy ?_) | (refine client_c ?_) | (refine number_c ?_) | (refine kind_c ?_) | fail)
      all_goals first
        | exact bad _ (hxx.trans (Ext.app _ _)) (fun h => by have := h.1 y hm; simp_all [Pend.Ok])
        | skip
      refine later_intro ⟨i + 1, by omega, hx.trans (Ext.app _ _), by omega, ?_, ?_, ?_, ?_, ?_⟩ <;> (try simp only [go_sem, t1, t6, t7, t8]) <;> (try rfl)
      intro j p hj hp
      by_cases hji : j < i
      · exact hall j p hji hp
      · obtain rfl : j = i := by omega
        rw [hy] at hp; cases hp; simp_all [Pend.Ok]
    · have hb : i = x.pending.length := by simp at hb; omega
      subst hb
      have ha : ∀ p ∈ x.pending, p.Ok := fun p hp => by
        obtain ⟨j, hj⟩ := List.mem_iff_getElem?.1 hp
        exact hall j p (List.getElem?_eq_some_iff.1 hj).1 hj
      have hc : ∀ p, cellAt s σ.objs.length p = (repV tk x).at p := fun p => cell_ext0 hx (by rw [← hO]; rfl) p
      clear hx hO
      have hx := hxx
      repeat' (first | (simp -dsimp only [↓reduceIte, go_sem, t1, t6, t7, t8, hc]) | (refine arr_intro fun _ => ?_) | (refine guardV_split (fun h => ?_) (fun h => ?_) <;> (try rw [h]) <;> (try simp at h) <;> (try (exfalso; omega))) | (refine number_c ?_) | (refine within_c ?_) | (refine view_c ?_) | fail)
      all_goals (first | (refine bool_endDX hx hK ?_; simp_all [Rep.Ok, view_last] <;> fail) | (refine bool_endDX hx hK ?_; simp [Rep.Ok, view_last]; omega) | (refine bool_endDX hx hK ?_; simp_all [Rep.Ok, view_last]; omega) | fail)
def isFull : Tk → Bool
  | .full => true
  | _ => false
def tkS {α : Type} (t : Tk) (l : List α) : Tk := if l = [] ∧ isFull t = true then .full else .none
theorem noRefs_pends {l : List Pend} : AV.noRefs (l.map pendV) = true := noRefs_leaf fun x => by simp only [AV.noRef]; exact noRef_pend
theorem noRefs_ints {l : List Int} : AV.noRefs (l.map (AV.int .i64)) = true := noRefs_leaf fun x => rfl
theorem slice_strip {α : Type} {f : α → AV} (h : ∀ x, (f x).strip = f x) {t : Tk} {l : List α} : (AV.slice t (l.map f)).strip = .slice (tkS t l) (l.map f) := by
  unfold tkS
  cases l with
  | nil => cases t <;> simp [AV.strip, isFull, AV.strips]
  | cons x r =>
    rw [if_neg (by simp)]
    cases t <;> simp [AV.strip, AV.strips, h x, strips_leaf h]
theorem strip_pendV (x : Pend) : (pendV x).strip = pendV x := by simp only [AV.strip, strip_pend]
theorem rep_strips {t : Tk} {x : Rep} : AV.strips (repPs t x) = repPs (tkS t x.pending) x := by
  simp only [repPs, AV.strips, slice_strip strip_pendV]
  simp [AV.strip]
theorem msg_strips {t u : Tk} {m : Msg} : AV.strips (msgPs t u m) = msgPs (tkS t m.rep.pending) (tkS u m.nums) m := by
  simp only [msgPs, AV.strips, slice_strip (f := AV.int .i64) (fun x => by simp [AV.strip])]
  simp [AV.strip, rep_strips, strip_sub, strip_blob]
theorem own_c {m : Msg} {t u : Tk} {σ : AST} {K : AV → AST → Prop} (hK : ∀ t' u', K (.tuple [msgV t' u' m.own_, .bool (decide m.FieldsOk)]) σ) : TCalls Tryz.prog 92 [msgV t u m] σ K := by
  refine TCalls.drop ?_
  refine tcalls_walk Tryz.f92 _ [.cell 2 42, .tmp 3] Tryz.func92 rfl rfl rfl mixed (Nat.le_of_ble_eq_true rfl) rfl fun hlen => ?_
  repeat' (first | (simp -dsimp only [↓reduceIte, go_sem]) | (refine later_intro ⟨keeps_nil, ?_⟩) | (with_reducible refine keeps_go ?_ ?_; focus (first | (simp [keeps_cons, keeps_none, objs_app, objs_app0]; done) | fail)) | (refine guardV_split (fun h => ?_) (fun h => ?_) <;> (try rw [h]) <;> (try simp at h) <;> (try (exfalso; omega))) | (refine submit_c ?_) | (refine reply_c ?_) | (refine view_c ?_) | (refine blob_c ?_) | (refine numbers_c ?_) | (refine client_c ?_) | (with_reducible refine awp_drawT (id := 5) (.op 0 2 (.op 1 2 (.op 2 2 (.op 3 3 (.op 4 1 (.op 5 2 .nil)))))) (by kernel_rfl) ?_) | (with_reducible refine awp_drawT (id := 7) (.op 0 0 (.op 1 0 (.op 2 2 (.op 3 1 (.op 4 2 (.op 5 1 .nil)))))) (by kernel_rfl) ?_) | (with_reducible refine awp_drawT (id := 8) (.op 0 2 (.op 1 2 (.op 2 2 (.op 3 3 (.op 4 1 (.op 5 2 .nil)))))) (by kernel_rfl) ?_) | (with_reducible refine awp_drawT (id := 10) (.op 0 2 (.op 1 2 (.op 2 0 (.op 3 0 (.op 4 2 (.op 5 1 (.op 6 2 (.op 7 1 .nil)))))))) (by kernel_rfl) ?_) | (with_reducible refine awp_drawT (id := 11) (.op 0 2 (.op 1 2 (.op 2 2 (.op 3 2 (.op 4 2 (.op 5 2 (.op 6 2 (.op 7 3 (.op 8 0 (.op 9 1 (.op 10 2 .nil))))))))))) (by kernel_rfl) ?_) | (with_reducible refine awp_drawT (id := 14) (.op 0 0 (.op 1 0 (.op 2 2 (.op 3 1 (.op 4 2 (.op 5 1 .nil)))))) (by kernel_rfl) ?_) | (with_reducible refine awp_drawT (id := 15) (.op 0 2 (.op 1 2 (.op 2 2 (.op 3 3 (.op 4 1 (.op 5 2 .nil)))))) (by kernel_rfl) ?_) | (with_reducible refine awp_drawT (id := 20) (.op 0 2 (.op 1 2 (.op 2 2 (.op 3 3 (.op 4 1 (.op 5 2 .nil)))))) (by kernel_rfl) ?_) | (with_reducible refine awp_drawT (id := 24) (.op 0 2 (.op 1 2 (.op 2 0 (.op 3 0 (.op 4 0 (.op 5 0 (.op 6 0 (.op 7 0 (.op 8 2 (.op 9 1 (.op 10 2 (.op 11 1 (.op 12 2 (.op 13 1 (.op 14 2 (.op 15 1 .nil)))))))))))))))) (by kernel_rfl) ?_) | (with_reducible refine awp_drawT (id := 25) (.op 0 2 (.op 1 2 (.op 2 2 (.op 3 3 (.op 4 2 (.op 5 2 (.op 6 2 (.op 7 2 (.op 8 2 (.op 9 2 (.op 10 2 (.op 11 2 (.op 12 3 (.op 13 0 (.op 14 1 (.op 15 2 .nil)))))))))))))))) (by kernel_rfl) ?_) | fail)
  all_goals
    refine ⟨Ext.app _ _, ?_, ?_⟩
    · simp [AV.noRef, AV.noRefs, msgPs, repPs, subPs, blobPs, noRefs_pends, noRefs_ints, msg0, rep0, sub0, blob0]
    · simp only [AV.strip, AV.strips, msg_strips]
      have key : ∀ {b : Bool} {x : Msg} {t' u' : Tk}, x = m.own_ → (b = true ↔ m.FieldsOk) → K (.tuple [msgV t' u' x, .bool b]) σ := fun {b x t' u'} h1 h2 => by
        have e : b = decide m.FieldsOk := by rw [Bool.eq_iff_iff, decide_eq_true_eq]; exact h2
        rw [h1, e]; exact hK t' u'
      refine key ?_ ?_
      · simp_all [Msg.own_]
      · simp_all [Msg.FieldsOk]
theorem right_c {m : Msg} {t u : Tk} {σ : AST} {K : AV → AST → Prop} (hK : K (.bool (decide m.Ok)) σ) : TCalls Tryz.prog 54 [msgV t u m] σ K := by
  refine TCalls.drop ?_
  refine tcalls_walk Tryz.f54 _ [.tmp 2] Tryz.func54 rfl rfl rfl mixed (Nat.le_of_ble_eq_true rfl) rfl fun hlen => ?_
  simp -dsimp only [↓reduceIte, go_sem]
  refine own_c fun t' u' => ?_
  repeat' (first | (simp -dsimp only [↓reduceIte, go_sem]) | (refine guardV_split (fun h => ?_) (fun h => ?_) <;> (try rw [h]) <;> (try simp at h) <;> (try (exfalso; omega))) | (refine client_c ?_) | (refine same_c ?_) | fail)
  all_goals ((refine bool_endDX (Ext.app _ _) hK ?_; simp_all [Msg.Ok] <;> fail))
attribute [local go_sem] pendPs_4 pendAt_4 pendPs_5 pendAt_5 repPs_3 repAt_3 repPs_7 repAt_7 repPs_9 repAt_9
attribute [local go_sem] fits52 zt3 zt23 zero23 slice23
theorem flatN {α : Type} {f : α → List UInt8} {l : List α} {m i : Nat} (h : ∀ x ∈ l, (f x).length ≤ m) : ((l.take i).flatMap f).length ≤ l.length * m := by
  have := flat_len (f := f) (m := m) (l := l.take i) (fun x hx => h x (List.mem_of_mem_take hx))
  have h2 : (l.take i).length * m ≤ l.length * m := Nat.mul_le_mul_right m (by simp; omega)
  omega
def InI (l : List Int) : Prop := ∀ n ∈ l, -9223372036854775808 ≤ n ∧ n ≤ 9223372036854775807
theorem numsN {l : List Int} (hl : InI l) : ∀ i, ((l.take i).flatMap numS).length ≤ l.length * 22 := fun i => flatN fun n hn => numS_len (hl n hn).1 (hl n hn).2

theorem wAt {tb : Tk} {xs : List AV} {v : AV} : partIs Tryz.prog 125 [.slice tb xs] 0 v = fits Tryz.prog 123 v := by rw [partIs_of (o := 0) (T := 123) (by kernel_rfl)]; simp [AV.sizes]
theorem zero54 : zeroA Tryz.prog 12 125 = .agg [.slice .full []] := by kernel_rfl
theorem zt54 : ZeroOf Tryz.prog 125 (.agg [.slice .full []]) = True := eq_true ⟨_, _, rfl, rfl, rfl, rfl, rfl⟩
theorem built54 : Built Tryz.prog 125 = True := eq_true (by unfold Built; rw [Tryz.underlying125]; decide +kernel)
theorem E96 : ElemT Tryz.prog 82 32 32 32 := ⟨rfl, by kernel_rfl, by kernel_rfl, ⟨.dig dig0, ⟨_, _, rfl, rfl, rfl, rfl, rfl⟩⟩, by decide⟩
theorem E31 : ElemT Tryz.prog 40 3 1 8 := ⟨rfl, by kernel_rfl, by kernel_rfl, ⟨_, of_eq_true zt3⟩, by decide⟩
theorem partInt {n : Int} : fits Tryz.prog 3 (.int .i64 n) ∧ (AV.int .i64 n).known = true := by simp [go_sem]
theorem partDig {d : Dig} : fits Tryz.prog 32 (.dig d) ∧ (AV.dig d).known = true := by simp [go_sem]
section
variable {KV : AV → Prop}
theorem bI1 {a : Int} (h : KV (.slice .full ([a].map (AV.int .i64)))) : buildSliceW Tryz.prog 40 1 [(0, .int .i64 a)] KV := build_slice E31 rfl (by decide) (by simp [partInt]) h
theorem bI2 {a b : Int} (h : KV (.slice .full ([a, b].map (AV.int .i64)))) : buildSliceW Tryz.prog 40 2 [(0, .int .i64 a), (1, .int .i64 b)] KV := build_slice E31 rfl (by decide) (by simp [partInt]) h
theorem bI3 {a b c : Int} (h : KV (.slice .full ([a, b, c].map (AV.int .i64)))) : buildSliceW Tryz.prog 40 3 [(0, .int .i64 a), (1, .int .i64 b), (2, .int .i64 c)] KV := build_slice E31 rfl (by decide) (by simp [partInt]) h
theorem bI4 {a b c d : Int} (h : KV (.slice .full ([a, b, c, d].map (AV.int .i64)))) : buildSliceW Tryz.prog 40 4 [(0, .int .i64 a), (1, .int .i64 b), (2, .int .i64 c), (3, .int .i64 d)] KV := build_slice E31 rfl (by decide) (by simp [partInt]) h
theorem bD1 {a : Dig} (h : KV (.slice .full ([a].map AV.dig))) : buildSliceW Tryz.prog 82 1 [(0, .dig a)] KV := build_slice E96 rfl (by decide) (by simp [partDig]) h
theorem bD2 {a b : Dig} (h : KV (.slice .full ([a, b].map AV.dig))) : buildSliceW Tryz.prog 82 2 [(0, .dig a), (1, .dig b)] KV := build_slice E96 rfl (by decide) (by simp [partDig]) h
end
attribute [local go_sem] wAt Tryz.underlying125 Tryz.underlying82

structure WF (σ0 s : AST) (j : Nat) (xs : List UInt8) (F : List (Nat × AObj)) : Prop where
  x : Ext σ0 s
  jn : σ0.objs.length ≤ j
  w : ∃ tb, tkNew σ0 tb ∧ canApp s tb xs.length 1 ∧ s.objs[j]? = some (.cells (.agg [.slice tb (u8s xs)]))
  f : ∀ x ∈ F, x.1 ≠ j ∧ s.objs[x.1]? = some x.2
theorem WF.mono {σ0 s : AST} {j : Nat} {xs : List UInt8} {F G : List (Nat × AObj)} (h : WF σ0 s j xs F) (hg : ∀ x ∈ G, x ∈ F) : WF σ0 s j xs G := ⟨h.x, h.jn, h.w, fun x hx => h.f x (hg x hx)⟩
theorem WF.eqn {σ0 s : AST} {j : Nat} {xs ys : List UInt8} {F : List (Nat × AObj)} (h : WF σ0 s j xs F) (e : ys = xs) : WF σ0 s j ys F := by subst e; exact h
theorem WF.push {σ0 s : AST} {j : Nat} {xs : List UInt8} {F : List (Nat × AObj)} {o : AObj} (h : WF σ0 s j xs F) : WF σ0 (s.app [o]) j xs ((s.objs.length, o) :: F) := by
  obtain ⟨tb, h1, h2, h3⟩ := h.w
  have hj : j < s.objs.length := (List.getElem?_eq_some_iff.1 h3).1
  refine ⟨h.x.trans (Ext.app _ _), h.jn, ⟨tb, h1, by rw [canApp_app]; exact h2, objs_known_app h3 _⟩, fun x hx => ?_⟩
  rcases List.mem_cons.1 hx with rfl | hx
  · exact ⟨by dsimp only; omega, objs_app0⟩
  · exact ⟨(h.f x hx).1, objs_known_app (h.f x hx).2 _⟩
theorem WF.cell {σ0 s : AST} {j k : Nat} {xs : List UInt8} {F : List (Nat × AObj)} {v : AV} (h : WF σ0 s j xs F) (hm : (k, AObj.cells v) ∈ F) (p : List Nat) : cellAt s k p = v.at p := cellAt_known (h.f _ hm).2 p
theorem WF.grow {σ0 s : AST} {j m : Nat} {xs ys : List UInt8} {F : List (Nat × AObj)} {tb : Tk} (h : WF σ0 s j xs F) (h1 : tkNew σ0 tb) (h2 : canApp s tb xs.length 1) (h3 : s.objs[j]? = some (.cells (.agg [.slice tb (u8s xs)]))) (hm : m = ys.length) :
    WF σ0 ((growS s tb m 1).set j (.cells (.agg [.slice (growT s tb) (u8s ys)]))) j ys F := by
  subst hm
  have hj : j < s.objs.length := (List.getElem?_eq_some_iff.1 h3).1
  refine ⟨(h.x.grow h1).set h.jn, h.jn, ⟨growT s tb, h1.grow h.x, by rw [canApp_set]; exact canApp_grow h2, ?_⟩, fun x hx => ⟨(h.f x hx).1, ?_⟩⟩
  · simp only [AST.set, growS_objs]; rw [List.getElem?_set_self (by omega)]
  · simp only [AST.set, growS_objs]; rw [List.getElem?_set_ne (fun e => (h.f x hx).1 e.symm)]; exact (h.f x hx).2

theorem wInts_c {l : List Int} (n : Nat) {tk : Tk} {j : Nat} {xs : List UInt8} {F : List (Nat × AObj)} {σ0 σ : AST} {K : AV → AST → Prop} (hl : InI l) (hn : l.length ≤ n) (hn2 : n ≤ 1000) (hx : xs.length ≤ 1000000) (h : WF σ0 σ j xs F)
    (hK : ∀ s, WF σ0 s j (xs ++ l.flatMap numS) F → (xs ++ l.flatMap numS).length ≤ xs.length + 22 * n → K (.tuple []) s) : TCalls Tryz.prog 55 [.ptr (some (j, [])), .slice tk (l.map (AV.int .i64))] σ K := by
  have hN := numsN hl
  refine tcalls_walk Tryz.f55 _ [] Tryz.func55 rfl rfl rfl mixed (Nat.le_of_ble_eq_true rfl) rfl fun hlen => ?_
  repeat' (first | (simp -dsimp only [↓reduceIte, go_sem]) | (refine arr_intro fun _ => ?_))
  refine awp_rounds (fun (i : Nat) τ s => i ≤ l.length ∧ WF σ0 s j (xs ++ (l.take i).flatMap numS) F ∧ τ 0 = .ptr (some (j, [])) ∧ τ 6 = .slice tk (l.map (AV.int .i64)) ∧ τ 7 = .int .i64 l.length ∧ τ 8 = .int .i64 i) (fun i => l.length - i) 0 ?_ ?_
  · refine ⟨by omega, h.eqn (by simp), ?_, ?_, ?_, ?_⟩ <;> (try simp only [go_sem]) <;> rfl
  · rintro i τ s ⟨hi, hw, t0, t6, t7, t8⟩
    simp -dsimp only [↓reduceIte, go_sem, t0, t6, t7, t8]
    refine boolW_split (fun hb => ?_) (fun hb => ?_)
    · have hb : i < l.length := by simp at hb; omega
      obtain ⟨y, hy, hm⟩ := get_of_lt hb
      have h22 := numS_len (hl y hm).1 (hl y hm).2
      have hNi := hN i
      obtain ⟨tb, w1, w2, w3⟩ := hw.w
      have c := cellAt_known w3
      have o2 : ∀ m, (growS s tb m 1).objs[j]? = some (.cells (.agg [.slice tb (u8s (xs ++ (l.take i).flatMap numS))])) := fun m => by rw [growS_objs]; exact w3
      have c2 := fun m => cellAt_known (o2 m)
      have htk : (l.take (i + 1)).flatMap numS = (l.take i).flatMap numS ++ numS y := by
        rw [List.take_add_one, hy]; simp
      repeat' (first | (simp -dsimp only [↓reduceIte, go_sem, t0, t6, t7, t8, c, w3, o2, c2]) | (refine later_intro ⟨keeps_nil, ?_⟩) | (rw [wrap_i64 (by omega) (by omega)]) | (refine nth_get hy ?_) | (with_reducible refine awp_drawT (id := 3) (.op 0 0 (.op 1 2 (.op 2 2 (.op 3 2 (.op 4 2 (.op 5 2 (.op 6 3 (.op 7 1 (.op 8 2 (.op 9 2 (.op 10 1 .nil))))))))))) (by kernel_rfl) ?_) | (refine L01.number_c (hl y hm).1 (hl y hm).2 ?_) | (refine append_text E51 Tryz.underlying9 w2 (by simp only [List.length_append]; omega) (by simp only [maxL, List.length_append]; omega) ?_))
      refine later_intro ⟨i + 1, by omega, by omega, ?_, ?_, ?_, ?_, ?_⟩ <;> (try simp only [go_sem, t0, t6, t7, t8])
      · rw [htk, ← List.append_assoc]; exact hw.grow w1 w2 w3 (by simp; omega)
      · rfl
    · have hb : i = l.length := by simp at hb; omega
      subst hb
      have hNi := hN l.length
      repeat' (simp -dsimp only [↓reduceIte, go_sem, t0, t6, t7, t8])
      exact hK s (hw.eqn (by simp)) (by simp at hNi ⊢; omega)

theorem textS_le {s : List UInt8} {m : Nat} (hs : s.length ≤ m) (hm : m ≤ 16384) : (textS s).length ≤ m + 21 := by
  have := dg_len20 (show s.length < 18446744073709551616 by omega)
  simp [textS]; omega
theorem wText_c {t : List UInt8} (n : Nat) {j : Nat} {xs : List UInt8} {F : List (Nat × AObj)} {σ0 σ : AST} {K : AV → AST → Prop} (hn : t.length ≤ n) (hn2 : n ≤ 16384) (hx : xs.length ≤ 2000000) (h : WF σ0 σ j xs F)
    (hK : ∀ s, WF σ0 s j (xs ++ textS t) F → (xs ++ textS t).length ≤ xs.length + n + 21 → K (.tuple []) s) : TCalls Tryz.prog 56 [.ptr (some (j, [])), .str t] σ K := by
  have h22 := textS_le hn hn2
  have h6 : ¬ 16384 < t.length := by omega
  obtain ⟨tb, w1, w2, w3⟩ := h.w
  have c := cellAt_known w3
  have o2 : ∀ m, (growS σ tb m 1).objs[j]? = some (.cells (.agg [.slice tb (u8s xs)])) := fun m => by rw [growS_objs]; exact w3
  have c2 := fun m => cellAt_known (o2 m)
  refine tcalls_walk Tryz.f56 _ [] Tryz.func56 rfl rfl rfl mixed (Nat.le_of_ble_eq_true rfl) rfl fun hlen => ?_
  repeat' (first | (simp -dsimp only [↓reduceIte, go_sem, c, w3, o2, c2, h6]) | (refine text_c ?_) | (refine append_text E51 Tryz.underlying9 w2 (by omega) (by simp only [maxL]; omega) ?_))
  refine hK _ (h.grow w1 w2 w3 (by simp)) (by simp; omega)

theorem bytes_c {d : Dig} {σ : AST} {K : AV → AST → Prop} (hK : K (.str d.l) σ) : TCalls Tryz.prog 97 [.dig d] σ K := by
  refine TCalls.drop ?_
  refine tcalls_walk Tryz.f97 _ [.tmp 2] Tryz.func97 rfl rfl rfl mixed (Nat.le_of_ble_eq_true rfl) rfl fun hlen => ?_
  repeat' (simp -dsimp only [↓reduceIte, go_sem, slice23 (σ := σ), conv_arr (P := Tryz.prog) (s := 123) (d := 9) (by kernel_rfl) (by kernel_rfl) Tryz.underlying9])
  exact ⟨Ext.app _ _, rfl, by simpa [AV.strip] using hK⟩

abbrev digS (d : Dig) : List UInt8 := textS d.l
theorem digs_take {l : List Dig} {i : Nat} : ((l.take i).flatMap digS).length ≤ l.length * 53 := flatN (f := digS) fun d _ => textS_le (m := 32) (by simp [d.h]) (by omega)
theorem wDigs_c {l : List Dig} (n : Nat) {tk : Tk} {j : Nat} {xs : List UInt8} {F : List (Nat × AObj)} {σ0 σ : AST} {K : AV → AST → Prop} (hn : l.length ≤ n) (hn2 : n ≤ 1000) (hx : xs.length ≤ 1000000) (h : WF σ0 σ j xs F)
    (hK : ∀ s, WF σ0 s j (xs ++ l.flatMap digS) F → (xs ++ l.flatMap digS).length ≤ xs.length + 53 * n → K (.tuple []) s) : TCalls Tryz.prog 57 [.ptr (some (j, [])), .slice tk (l.map AV.dig)] σ K := by
  refine tcalls_walk Tryz.f57 _ [] Tryz.func57 rfl rfl rfl mixed (Nat.le_of_ble_eq_true rfl) rfl fun hlen => ?_
  repeat' (first | (simp -dsimp only [↓reduceIte, go_sem]) | (refine arr_intro fun _ => ?_))
  refine awp_rounds (fun (i : Nat) τ s => i ≤ l.length ∧ WF σ0 s j (xs ++ (l.take i).flatMap digS) F ∧ τ 0 = .ptr (some (j, [])) ∧ τ 6 = .slice tk (l.map AV.dig) ∧ τ 7 = .int .i64 l.length ∧ τ 8 = .int .i64 i) (fun i => l.length - i) 0 ?_ ?_
  · refine ⟨by omega, h.eqn (by simp), ?_, ?_, ?_, ?_⟩ <;> (try simp only [go_sem]) <;> rfl
  · rintro i τ s ⟨hi, hw, t0, t6, t7, t8⟩
    have hNi := digs_take (l := l) (i := i)
    simp -dsimp only [↓reduceIte, go_sem, t0, t6, t7, t8]
    refine boolW_split (fun hb => ?_) (fun hb => ?_)
    · have hb : i < l.length := by simp at hb; omega
      obtain ⟨y, hy, hm⟩ := get_of_lt hb
      have htk : (l.take (i + 1)).flatMap digS = (l.take i).flatMap digS ++ digS y := by
        rw [List.take_add_one, hy]; simp
      repeat' (first | (simp -dsimp only [↓reduceIte, go_sem, t0, t6, t7, t8]) | (refine nth_get hy ?_) | (refine bytes_c ?_))
      refine wText_c 32 (by simp [y.h]) (by omega) (by simp only [List.length_append]; omega) hw.push fun s2 hw2 _ => ?_
      repeat' (first | (simp -dsimp only [↓reduceIte, go_sem, t0, t6, t7, t8]) | (rw [wrap_i64 (by omega) (by omega)]))
      refine later_intro ⟨i + 1, by omega, by omega, ?_, ?_, ?_, ?_, ?_⟩ <;> (try simp only [go_sem, t0, t6, t7, t8])
      · rw [htk, ← List.append_assoc]; exact hw2.mono (by simp +contextual)
      · rfl
    · have hb : i = l.length := by simp at hb; omega
      subst hb
      repeat' (simp -dsimp only [↓reduceIte, go_sem, t0, t6, t7, t8])
      exact hK s (hw.eqn (by simp)) (by simp at hNi ⊢; omega)


def pendB (p : Pend) : List UInt8 := [p.client, p.num, p.kind, p.target].flatMap numS ++ [p.asked, p.proof].flatMap digS
def ansB (x : Rep) : List UInt8 := [x.num, x.last].flatMap numS ++ textS x.view ++ [x.commit].flatMap digS ++ [(x.pending.length : Int)].flatMap numS ++ x.pending.flatMap pendB ++ [x.vnum].flatMap numS ++ textS x.value ++ [x.data].flatMap digS ++ textS x.seen ++ [x.seenTag].flatMap digS
theorem Pend.Ok.in_ {p : Pend} (h : p.Ok) : InI [p.client, p.num, p.kind, p.target] := by
  obtain ⟨h1, h2, h3, h4⟩ := h
  simp only [In] at h1 h2 h3 h4
  intro n hn
  simp at hn
  omega
theorem wAns_c {x : Rep} (hok : x.Ok) {tk : Tk} {j : Nat} {xs : List UInt8} {F : List (Nat × AObj)} {σ0 σ : AST} {K : AV → AST → Prop} (hx : xs.length ≤ 1000) (h : WF σ0 σ j xs F)
    (hK : ∀ s, WF σ0 s j (xs ++ ansB x) F → (xs ++ ansB x).length ≤ 100000 → K (.tuple []) s) : TCalls Tryz.prog 58 [.ptr (some (j, [])), repV tk x] σ K := by
  obtain ⟨hp, h1, h2, h3, h4, h5, h6, h7, h8⟩ := hok
  simp only [In, ViewOk] at h1 h2 h5 h6 h7
  refine tcalls_walk Tryz.f58 _ [] Tryz.func58 rfl rfl rfl mixed (Nat.le_of_ble_eq_true rfl) rfl fun hlen => ?_
  have h := h.push (o := .cells (repV tk x))
  generalize hk : σ.objs.length = k at h
  have c := h.cell (k := k) (List.mem_cons_self ..)
  repeat' (first | (simp -dsimp only [↓reduceIte, go_sem, hk, c]) | (refine bI2 ?_))
  refine wInts_c 2 (l := [x.num, x.last]) (by (intro n hn; simp at hn; omega)) (by simp) (by omega) (by omega) h fun s h b => ?_
  have c := h.cell (k := k) (List.mem_cons_self ..)
  repeat' (simp -dsimp only [↓reduceIte, go_sem, c])
  refine wText_c 512 (by omega) (by omega) (by omega) h fun s h b => ?_
  have c := h.cell (k := k) (List.mem_cons_self ..)
  repeat' (first | (simp -dsimp only [↓reduceIte, go_sem, c]) | (refine bD1 ?_))
  refine wDigs_c 1 (l := [x.commit]) (by simp) (by omega) (by omega) h fun s h b => ?_
  have c := h.cell (k := k) (List.mem_cons_self ..)
  repeat' (first | (simp -dsimp only [↓reduceIte, go_sem, c]) | (refine arr_intro fun _ => ?_) | (refine bI1 ?_))
  refine wInts_c 1 (l := [(x.pending.length : Int)]) (by (intro n hn; simp at hn; omega)) (by simp) (by omega) (by omega) h fun s h b => ?_
  have c := h.cell (k := k) (List.mem_cons_self ..)
  repeat' (first | (simp -dsimp only [↓reduceIte, go_sem, c]) | (refine arr_intro fun _ => ?_))
  have hz : ∀ i, ((x.pending.take i).flatMap pendB).length ≤ x.pending.length * 194 := fun i => flatN fun p hm => by
    have h1 := numsN (hp p hm).in_ 4
    have h2 := digs_take (l := [p.asked, p.proof]) (i := 2)
    simp at h1 h2
    simp [pendB]; omega
  generalize hys : xs ++ [x.num, x.last].flatMap numS ++ textS x.view ++ [x.commit].flatMap digS ++ [(x.pending.length : Int)].flatMap numS = ys at h b
  have hy : ys.length ≤ 2000 := by omega
  refine awp_rounds (fun (i : Nat) τ s => i ≤ x.pending.length ∧ WF σ0 s j (ys ++ (x.pending.take i).flatMap pendB) ((k, .cells (repV tk x)) :: F) ∧ τ 0 = .ptr (some (j, [])) ∧ τ 3 = .ptr (some (k, [])) ∧ τ 29 = .slice tk (x.pending.map pendV) ∧ τ 30 = .int .i64 x.pending.length ∧ τ 31 = .int .i64 i) (fun i => x.pending.length - i) 0 ?_ ?_
  · refine ⟨by omega, h.eqn (by simp), ?_, ?_, ?_, ?_, ?_⟩ <;> (try simp only [go_sem]) <;> rfl
  · rintro i τ s ⟨hi, h, t0, t3, t29, t30, t31⟩
    have hzi := hz i
    simp -dsimp only [↓reduceIte, go_sem, t0, t3, t29, t30, t31]
    refine boolW_split (fun hb => ?_) (fun hb => ?_)
    · have hb : i < x.pending.length := by simp at hb; omega
      obtain ⟨y, hy, hm⟩ := get_of_lt hb
      have htk : (x.pending.take (i + 1)).flatMap pendB = (x.pending.take i).flatMap pendB ++ pendB y := by
        rw [List.take_add_one, hy]; simp
      have hq := (hp y hm).in_
      repeat' (first | (simp -dsimp only [↓reduceIte, go_sem, t0, t3, t29, t30, t31]) | (refine nth_get hy ?_) | (refine bI4 ?_))
      have h := h.push (o := .cells (pendV y))
      generalize hk : s.objs.length = k2 at h
      have hyz : (ys ++ (x.pending.take i).flatMap pendB).length ≤ 4000 := by simp only [List.length_append]; omega
      refine wInts_c 4 (l := [y.client, y.num, y.kind, y.target]) (hq) (by simp) (by omega) (by omega) h fun s h b => ?_
      have c := h.cell (k := k2) (List.mem_cons_self ..)
      repeat' (first | (simp -dsimp only [↓reduceIte, go_sem, t0, t3, t29, t30, t31, hk, c]) | (refine bD2 ?_))
      refine wDigs_c 2 (l := [y.asked, y.proof]) (by simp) (by omega) (by omega) h fun s h b => ?_
      have c := h.cell (k := k2) (List.mem_cons_self ..)
      repeat' (first | (simp -dsimp only [↓reduceIte, go_sem, t0, t3, t29, t30, t31, hk, c]) | (rw [wrap_i64 (by omega) (by omega)]))
      refine later_intro ⟨i + 1, by omega, by omega, ?_, ?_, ?_, ?_, ?_, ?_⟩ <;> (try simp only [go_sem, t0, t3, t29, t30, t31])
      · rw [htk]; exact (h.mono (by simp +contextual)).eqn (by simp [pendB])
      · rfl
    · have hb : i = x.pending.length := by simp at hb; omega
      subst hb
      have c := h.cell (k := k) (List.mem_cons_self ..)
      have hyz : (ys ++ (x.pending.take x.pending.length).flatMap pendB).length ≤ 4000 := by simp only [List.length_append]; omega
      repeat' (first | (simp -dsimp only [↓reduceIte, go_sem, t0, t3, t29, t30, t31, c]) | (refine bI1 ?_))
      refine wInts_c 1 (l := [x.vnum]) (by (intro n hn; simp at hn; omega)) (by simp) (by omega) (by omega) h fun s h b => ?_
      have c := h.cell (k := k) (List.mem_cons_self ..)
      repeat' (simp -dsimp only [↓reduceIte, go_sem, t0, t3, t29, t30, t31, c])
      refine wText_c 256 (by omega) (by omega) (by omega) h fun s h b => ?_
      have c := h.cell (k := k) (List.mem_cons_self ..)
      repeat' (first | (simp -dsimp only [↓reduceIte, go_sem, t0, t3, t29, t30, t31, c]) | (refine bD1 ?_))
      refine wDigs_c 1 (l := [x.data]) (by simp) (by omega) (by omega) h fun s h b => ?_
      have c := h.cell (k := k) (List.mem_cons_self ..)
      repeat' (simp -dsimp only [↓reduceIte, go_sem, t0, t3, t29, t30, t31, c])
      refine wText_c 512 (by omega) (by omega) (by omega) h fun s h b => ?_
      have c := h.cell (k := k) (List.mem_cons_self ..)
      repeat' (first | (simp -dsimp only [↓reduceIte, go_sem, t0, t3, t29, t30, t31, c]) | (refine bD1 ?_))
      refine wDigs_c 1 (l := [x.seenTag]) (by simp) (by omega) (by omega) h fun s h b => ?_
      have c := h.cell (k := k) (List.mem_cons_self ..)
      repeat' (simp -dsimp only [↓reduceIte, go_sem, t0, t3, t29, t30, t31, c])
      have e : ys ++ (x.pending.take x.pending.length).flatMap pendB ++ [x.vnum].flatMap numS ++ textS x.value ++ [x.data].flatMap digS ++ textS x.seen ++ [x.seenTag].flatMap digS = xs ++ ansB x := by
        rw [← hys]; simp [ansB]
      rw [e] at h b
      exact hK s (h.mono (by simp +contextual)) (by omega)
attribute [local go_sem] Tryz.underlying5 Tryz.underlying123 subPs_0 subAt_0 subPs_1 subAt_1 subPs_2 subAt_2 subPs_3 subAt_3 subPs_4 subAt_4 subPs_5 subAt_5 Tryz.underlying34 blobPs_0 blobAt_0 blobPs_1 blobAt_1 blobPs_2 blobAt_2 blobPs_3 blobAt_3 Tryz.underlying39
attribute [local go_sem] wAt zero54 zt54 built54 Tryz.underlying125

def subB (x : Sub) : List UInt8 := [x.num, x.kind, x.target].flatMap numS ++ textS x.value ++ [x.asked, x.data].flatMap digS
def blobB (x : Blob) : List UInt8 := [x.owner, x.num].flatMap numS ++ textS x.cipher ++ [x.tag].flatMap digS
def Msg.rest (m : Msg) : List UInt8 :=
  if m.kind = 1 then subB m.sub
  else if m.kind = 2 then ansB m.rep
  else if m.kind = 3 then textS m.view ++ [m.tag].flatMap digS
  else if m.kind = 4 ∨ m.kind = 6 then blobB m.blob
  else if m.kind = 5 ∨ m.kind = 7 ∨ m.kind = 8 then laidAll numS m.nums
  else if m.kind = 10 then [m.by_].flatMap numS ++ textS m.view ++ [m.tag, m.own].flatMap digS
  else if m.kind = 11 then [m.own].flatMap digS else []
def Msg.bytes (m : Msg) : List UInt8 := [m.kind].flatMap numS ++ (if m.kind = 2 ∨ m.kind = 4 ∨ m.kind = 6 then [] else [m.client].flatMap numS) ++ m.rest

theorem Msg.Ok.kinds {m : Msg} (h : m.Ok) : (m.kind = 1 ∧ m.sub.Ok) ∨ (m.kind = 2 ∧ m.rep.Ok) ∨ (m.kind = 3 ∧ m.view ≠ [] ∧ ViewOk 8 m.view) ∨ (m.kind = 4 ∧ m.blob.Ok) ∨ (m.kind = 5 ∧ NumsOk m.nums) ∨ (m.kind = 6 ∧ m.blob.Ok) ∨ (m.kind = 7 ∧ NumsOk m.nums) ∨ (m.kind = 8 ∧ NumsOk m.nums) ∨ m.kind = 9 ∨ (m.kind = 10 ∧ In 0 7 m.by_ ∧ m.view ≠ [] ∧ ViewOk 8 m.view) ∨ m.kind = 11 := by
  have h := h.1
  unfold Msg.FieldsOk at h
  split at h
  · simp_all
  split at h
  · simp_all
  split at h
  · simp_all
  split at h
  · rename_i hk; rcases hk with hk | hk <;> simp_all
  split at h
  · rename_i hk; rcases hk with hk | hk | hk <;> simp_all
  split at h
  · simp_all
  rcases h with h | h <;> simp_all
theorem NumsOk.in_ {l : List Int} (h : NumsOk l) : InI l := fun n hn => by
  obtain ⟨i, hi, rfl⟩ := List.getElem_of_mem hn
  have := (h.1 i _ (List.getElem?_eq_getElem hi)).1
  simp only [In] at this
  omega

theorem put_c {m : Msg} {t u : Tk} {σ : AST} {K : AV → AST → Prop} (hK : K (if m.Ok then .tuple [.str m.bytes, .int .i64 0] else .tuple [.str [], .int .i64 2]) σ) : TCalls Tryz.prog 24 [msgV t u m] σ K := by
  refine TCalls.drop ?_
  refine tcalls_walk Tryz.f24 _ [.tmp 2, .tmp 3] Tryz.func24 rfl rfl rfl mixed (Nat.le_of_ble_eq_true rfl) rfl fun hlen => ?_
  simp -dsimp only [↓reduceIte, go_sem]
  refine right_c ?_
  by_cases hok : m.Ok
  · rw [if_pos hok] at hK
    have hkinds := hok.kinds
    obtain ⟨hf, hc, ho⟩ := hok
    have hok : m.Ok := ⟨hf, hc, ho⟩
    simp only [In] at hc
    repeat' (first | (simp -dsimp only [↓reduceIte, go_sem, hok]) | (refine bI1 ?_))
    have h : WF σ (σ.app [.cells (msgV t u m), .cells (.agg [.slice .full []])]) (σ.objs.length + 1) [] [(σ.objs.length, .cells (msgV t u m))] := by
      refine ⟨Ext.app _ _, by omega, ⟨.full, .inl rfl, trivial, ?_⟩, ?_⟩
      · simp [AST.app, u8s]
      · simp [AST.app]
    generalize hk : σ.objs.length = k at h
    generalize hj : k + 1 = j at h
    have hk1 : 1 ≤ m.kind ∧ m.kind ≤ 11 := by omega
    refine wInts_c 1 (l := [m.kind]) (by (intro n hn; simp at hn; omega)) (by simp) (by omega) (by simp) h fun s h b => ?_
    have c := h.cell (k := k) (List.mem_cons_self ..)
    simp only [List.nil_append] at h b
    have b0 : ([m.kind].flatMap numS).length ≤ 22 := by simpa using b
    rcases hkinds with ⟨hq, hs⟩ | ⟨hq, hs⟩ | ⟨hq, hs⟩ | ⟨hq, hs⟩ | ⟨hq, hs⟩ | ⟨hq, hs⟩ | ⟨hq, hs⟩ | ⟨hq, hs⟩ | hq | ⟨hq, hs⟩ | hq
    · obtain ⟨o1, o2, o3, o4⟩ := hs
      simp only [In] at o1 o2 o3
      repeat' (first | (simp -dsimp only [↓reduceIte, go_sem, c, hq, hj, hk]) | (refine bI1 ?_))
      refine wInts_c 1 (l := [m.client]) (by (intro n hn; simp at hn; omega)) (by simp) (by omega) (by omega) h fun s h b => ?_
      have c := h.cell (k := k) (List.mem_cons_self ..)
      repeat' (first | (simp -dsimp only [↓reduceIte, go_sem, c, hq, hj, hk]) | (refine bI3 ?_))
      refine wInts_c 3 (l := [m.sub.num, m.sub.kind, m.sub.target]) (by (intro n hn; simp at hn; omega)) (by simp) (by omega) (by omega) h fun s h b => ?_
      have c := h.cell (k := k) (List.mem_cons_self ..)
      repeat' (simp -dsimp only [↓reduceIte, go_sem, c, hq, hj, hk])
      refine wText_c 256 (by omega) (by omega) (by omega) h fun s h b => ?_
      have c := h.cell (k := k) (List.mem_cons_self ..)
      repeat' (first | (simp -dsimp only [↓reduceIte, go_sem, c, hq, hj, hk]) | (refine bD2 ?_))
      refine wDigs_c 2 (l := [m.sub.asked, m.sub.data]) (by simp) (by omega) (by omega) h fun s h b => ?_
      have c := h.cell (k := k) (List.mem_cons_self ..)
      repeat' (simp -dsimp only [↓reduceIte, go_sem, c, hq, hj, hk])
      obtain ⟨tb, w1, w2, w3⟩ := h.w
      have c := cellAt_known w3
      repeat' (simp -dsimp only [↓reduceIte, go_sem, c, hq, hj])
      refine ⟨h.x, rfl, ?_⟩
      simpa [AV.strip, AV.strips, Msg.bytes, Msg.rest, hq, subB, blobB] using hK
    · repeat' (simp -dsimp only [↓reduceIte, go_sem, c, hq, hj, hk])
      refine wAns_c hs (by omega) h fun s h b => ?_
      obtain ⟨tb, w1, w2, w3⟩ := h.w
      have c := cellAt_known w3
      repeat' (simp -dsimp only [↓reduceIte, go_sem, c, hq, hj])
      refine ⟨h.x, rfl, ?_⟩
      simpa [AV.strip, AV.strips, Msg.bytes, Msg.rest, hq, subB, blobB] using hK
    · obtain ⟨_, o1, o2, _⟩ := hs
      repeat' (first | (simp -dsimp only [↓reduceIte, go_sem, c, hq, hj, hk]) | (refine bI1 ?_))
      refine wInts_c 1 (l := [m.client]) (by (intro n hn; simp at hn; omega)) (by simp) (by omega) (by omega) h fun s h b => ?_
      have c := h.cell (k := k) (List.mem_cons_self ..)
      repeat' (simp -dsimp only [↓reduceIte, go_sem, c, hq, hj, hk])
      refine wText_c 512 (by omega) (by omega) (by omega) h fun s h b => ?_
      have c := h.cell (k := k) (List.mem_cons_self ..)
      repeat' (first | (simp -dsimp only [↓reduceIte, go_sem, c, hq, hj, hk]) | (refine bD1 ?_))
      refine wDigs_c 1 (l := [m.tag]) (by simp) (by omega) (by omega) h fun s h b => ?_
      have c := h.cell (k := k) (List.mem_cons_self ..)
      repeat' (simp -dsimp only [↓reduceIte, go_sem, c, hq, hj, hk])
      obtain ⟨tb, w1, w2, w3⟩ := h.w
      have c := cellAt_known w3
      repeat' (simp -dsimp only [↓reduceIte, go_sem, c, hq, hj])
      refine ⟨h.x, rfl, ?_⟩
      simpa [AV.strip, AV.strips, Msg.bytes, Msg.rest, hq, subB, blobB] using hK
    · obtain ⟨o1, o2, o3⟩ := hs
      simp only [In] at o1 o2
      repeat' (first | (simp -dsimp only [↓reduceIte, go_sem, c, hq, hj, hk]) | (refine bI2 ?_))
      refine wInts_c 2 (l := [m.blob.owner, m.blob.num]) (by (intro n hn; simp at hn; omega)) (by simp) (by omega) (by omega) h fun s h b => ?_
      have c := h.cell (k := k) (List.mem_cons_self ..)
      repeat' (simp -dsimp only [↓reduceIte, go_sem, c, hq, hj, hk])
      refine wText_c 4096 (by omega) (by omega) (by omega) h fun s h b => ?_
      have c := h.cell (k := k) (List.mem_cons_self ..)
      repeat' (first | (simp -dsimp only [↓reduceIte, go_sem, c, hq, hj, hk]) | (refine bD1 ?_))
      refine wDigs_c 1 (l := [m.blob.tag]) (by simp) (by omega) (by omega) h fun s h b => ?_
      have c := h.cell (k := k) (List.mem_cons_self ..)
      repeat' (simp -dsimp only [↓reduceIte, go_sem, c, hq, hj, hk])
      obtain ⟨tb, w1, w2, w3⟩ := h.w
      have c := cellAt_known w3
      repeat' (simp -dsimp only [↓reduceIte, go_sem, c, hq, hj])
      refine ⟨h.x, rfl, ?_⟩
      simpa [AV.strip, AV.strips, Msg.bytes, Msg.rest, hq, subB, blobB] using hK
    · repeat' (first | (simp -dsimp only [↓reduceIte, go_sem, c, hq, hj, hk]) | (refine bI1 ?_))
      refine wInts_c 1 (l := [m.client]) (by (intro n hn; simp at hn; omega)) (by simp) (by omega) (by omega) h fun s h b => ?_
      have c := h.cell (k := k) (List.mem_cons_self ..)
      repeat' (simp -dsimp only [↓reduceIte, go_sem, c, hq, hj, hk])
      generalize hys : [m.kind].flatMap numS ++ [m.client].flatMap numS = ys at h b
      have e : m.bytes = ys ++ laidAll numS m.nums := by rw [← hys]; simp [Msg.bytes, Msg.rest, hq]
      rw [e] at hK
      have hyl : ys.length ≤ 100 := by omega
      obtain ⟨tb, w1, w2, w3⟩ := h.w
      have c1 := cellAt_known w3
      have o2 : ∀ n, (growS s tb n 1).objs[j]? = some (.cells (.agg [.slice tb (u8s ys)])) := fun n => by rw [growS_objs]; exact w3
      have c2 := fun n => cellAt_known (o2 n)
      have hl : ¬ 512 < m.nums.length := by have := hs.2; simp only [In] at this; omega
      have hl2 : (laidAll numS m.nums).length ≤ 20000 := by
        have h1 := part_len (f := numS) (l := m.nums) (m := 22) (i := m.nums.length) (fun x hx => numS_len (hs.in_ x hx).1 (hs.in_ x hx).2) (Nat.le_refl _); have := hs.2; simp only [In] at this; simp only [laidAll, List.length_append, List.length_cons, List.length_nil]; omega
      repeat' (first | (simp -dsimp only [↓reduceIte, go_sem, c, hq, hj, hk, c1, w3, o2, c2, hl]) | (refine L01.numbers_c hs.in_ ?_) | (refine append_text E51 Tryz.underlying9 w2 (by omega) (by simp only [maxL]; omega) ?_))
      have h := h.grow (m := ys.length + (laidAll numS m.nums).length) (ys := ys ++ laidAll numS m.nums) w1 w2 w3 (by simp)
      obtain ⟨tb, w1, w2, w3⟩ := h.w
      have c := cellAt_known w3
      repeat' (simp -dsimp only [↓reduceIte, go_sem, c, hq, hj])
      refine ⟨h.x, rfl, ?_⟩
      simpa [AV.strip, AV.strips, Msg.bytes, Msg.rest, hq, subB, blobB] using hK
    · obtain ⟨o1, o2, o3⟩ := hs
      simp only [In] at o1 o2
      repeat' (first | (simp -dsimp only [↓reduceIte, go_sem, c, hq, hj, hk]) | (refine bI2 ?_))
      refine wInts_c 2 (l := [m.blob.owner, m.blob.num]) (by (intro n hn; simp at hn; omega)) (by simp) (by omega) (by omega) h fun s h b => ?_
      have c := h.cell (k := k) (List.mem_cons_self ..)
      repeat' (simp -dsimp only [↓reduceIte, go_sem, c, hq, hj, hk])
      refine wText_c 4096 (by omega) (by omega) (by omega) h fun s h b => ?_
      have c := h.cell (k := k) (List.mem_cons_self ..)
      repeat' (first | (simp -dsimp only [↓reduceIte, go_sem, c, hq, hj, hk]) | (refine bD1 ?_))
      refine wDigs_c 1 (l := [m.blob.tag]) (by simp) (by omega) (by omega) h fun s h b => ?_
      have c := h.cell (k := k) (List.mem_cons_self ..)
      repeat' (simp -dsimp only [↓reduceIte, go_sem, c, hq, hj, hk])
      obtain ⟨tb, w1, w2, w3⟩ := h.w
      have c := cellAt_known w3
      repeat' (simp -dsimp only [↓reduceIte, go_sem, c, hq, hj])
      refine ⟨h.x, rfl, ?_⟩
      simpa [AV.strip, AV.strips, Msg.bytes, Msg.rest, hq, subB, blobB] using hK
    · repeat' (first | (simp -dsimp only [↓reduceIte, go_sem, c, hq, hj, hk]) | (refine bI1 ?_))
      refine wInts_c 1 (l := [m.client]) (by (intro n hn; simp at hn; omega)) (by simp) (by omega) (by omega) h fun s h b => ?_
      have c := h.cell (k := k) (List.mem_cons_self ..)
      repeat' (simp -dsimp only [↓reduceIte, go_sem, c, hq, hj, hk])
      generalize hys : [m.kind].flatMap numS ++ [m.client].flatMap numS = ys at h b
      have e : m.bytes = ys ++ laidAll numS m.nums := by rw [← hys]; simp [Msg.bytes, Msg.rest, hq]
      rw [e] at hK
      have hyl : ys.length ≤ 100 := by omega
      obtain ⟨tb, w1, w2, w3⟩ := h.w
      have c1 := cellAt_known w3
      have o2 : ∀ n, (growS s tb n 1).objs[j]? = some (.cells (.agg [.slice tb (u8s ys)])) := fun n => by rw [growS_objs]; exact w3
      have c2 := fun n => cellAt_known (o2 n)
      have hl : ¬ 512 < m.nums.length := by have := hs.2; simp only [In] at this; omega
      have hl2 : (laidAll numS m.nums).length ≤ 20000 := by
        have h1 := part_len (f := numS) (l := m.nums) (m := 22) (i := m.nums.length) (fun x hx => numS_len (hs.in_ x hx).1 (hs.in_ x hx).2) (Nat.le_refl _); have := hs.2; simp only [In] at this; simp only [laidAll, List.length_append, List.length_cons, List.length_nil]; omega
      repeat' (first | (simp -dsimp only [↓reduceIte, go_sem, c, hq, hj, hk, c1, w3, o2, c2, hl]) | (refine L01.numbers_c hs.in_ ?_) | (refine append_text E51 Tryz.underlying9 w2 (by omega) (by simp only [maxL]; omega) ?_))
      have h := h.grow (m := ys.length + (laidAll numS m.nums).length) (ys := ys ++ laidAll numS m.nums) w1 w2 w3 (by simp)
      obtain ⟨tb, w1, w2, w3⟩ := h.w
      have c := cellAt_known w3
      repeat' (simp -dsimp only [↓reduceIte, go_sem, c, hq, hj])
      refine ⟨h.x, rfl, ?_⟩
      simpa [AV.strip, AV.strips, Msg.bytes, Msg.rest, hq, subB, blobB] using hK
    · repeat' (first | (simp -dsimp only [↓reduceIte, go_sem, c, hq, hj, hk]) | (refine bI1 ?_))
      refine wInts_c 1 (l := [m.client]) (by (intro n hn; simp at hn; omega)) (by simp) (by omega) (by omega) h fun s h b => ?_
      have c := h.cell (k := k) (List.mem_cons_self ..)
      repeat' (simp -dsimp only [↓reduceIte, go_sem, c, hq, hj, hk])
      generalize hys : [m.kind].flatMap numS ++ [m.client].flatMap numS = ys at h b
      have e : m.bytes = ys ++ laidAll numS m.nums := by rw [← hys]; simp [Msg.bytes, Msg.rest, hq]
      rw [e] at hK
      have hyl : ys.length ≤ 100 := by omega
      obtain ⟨tb, w1, w2, w3⟩ := h.w
      have c1 := cellAt_known w3
      have o2 : ∀ n, (growS s tb n 1).objs[j]? = some (.cells (.agg [.slice tb (u8s ys)])) := fun n => by rw [growS_objs]; exact w3
      have c2 := fun n => cellAt_known (o2 n)
      have hl : ¬ 512 < m.nums.length := by have := hs.2; simp only [In] at this; omega
      have hl2 : (laidAll numS m.nums).length ≤ 20000 := by
        have h1 := part_len (f := numS) (l := m.nums) (m := 22) (i := m.nums.length) (fun x hx => numS_len (hs.in_ x hx).1 (hs.in_ x hx).2) (Nat.le_refl _); have := hs.2; simp only [In] at this; simp only [laidAll, List.length_append, List.length_cons, List.length_nil]; omega
      repeat' (first | (simp -dsimp only [↓reduceIte, go_sem, c, hq, hj, hk, c1, w3, o2, c2, hl]) | (refine L01.numbers_c hs.in_ ?_) | (refine append_text E51 Tryz.underlying9 w2 (by omega) (by simp only [maxL]; omega) ?_))
      have h := h.grow (m := ys.length + (laidAll numS m.nums).length) (ys := ys ++ laidAll numS m.nums) w1 w2 w3 (by simp)
      obtain ⟨tb, w1, w2, w3⟩ := h.w
      have c := cellAt_known w3
      repeat' (simp -dsimp only [↓reduceIte, go_sem, c, hq, hj])
      refine ⟨h.x, rfl, ?_⟩
      simpa [AV.strip, AV.strips, Msg.bytes, Msg.rest, hq, subB, blobB] using hK
    · repeat' (first | (simp -dsimp only [↓reduceIte, go_sem, c, hq, hj, hk]) | (refine bI1 ?_))
      refine wInts_c 1 (l := [m.client]) (by (intro n hn; simp at hn; omega)) (by simp) (by omega) (by omega) h fun s h b => ?_
      have c := h.cell (k := k) (List.mem_cons_self ..)
      repeat' (simp -dsimp only [↓reduceIte, go_sem, c, hq, hj, hk])
      obtain ⟨tb, w1, w2, w3⟩ := h.w
      have c := cellAt_known w3
      repeat' (simp -dsimp only [↓reduceIte, go_sem, c, hq, hj])
      refine ⟨h.x, rfl, ?_⟩
      simpa [AV.strip, AV.strips, Msg.bytes, Msg.rest, hq, subB, blobB] using hK
    · obtain ⟨o0, _, o1, o2, _⟩ := hs
      simp only [In] at o0
      repeat' (first | (simp -dsimp only [↓reduceIte, go_sem, c, hq, hj, hk]) | (refine bI1 ?_))
      refine wInts_c 1 (l := [m.client]) (by (intro n hn; simp at hn; omega)) (by simp) (by omega) (by omega) h fun s h b => ?_
      have c := h.cell (k := k) (List.mem_cons_self ..)
      repeat' (first | (simp -dsimp only [↓reduceIte, go_sem, c, hq, hj, hk]) | (refine bI1 ?_))
      refine wInts_c 1 (l := [m.by_]) (by (intro n hn; simp at hn; omega)) (by simp) (by omega) (by omega) h fun s h b => ?_
      have c := h.cell (k := k) (List.mem_cons_self ..)
      repeat' (simp -dsimp only [↓reduceIte, go_sem, c, hq, hj, hk])
      refine wText_c 512 (by omega) (by omega) (by omega) h fun s h b => ?_
      have c := h.cell (k := k) (List.mem_cons_self ..)
      repeat' (first | (simp -dsimp only [↓reduceIte, go_sem, c, hq, hj, hk]) | (refine bD2 ?_))
      refine wDigs_c 2 (l := [m.tag, m.own]) (by simp) (by omega) (by omega) h fun s h b => ?_
      have c := h.cell (k := k) (List.mem_cons_self ..)
      repeat' (simp -dsimp only [↓reduceIte, go_sem, c, hq, hj, hk])
      obtain ⟨tb, w1, w2, w3⟩ := h.w
      have c := cellAt_known w3
      repeat' (simp -dsimp only [↓reduceIte, go_sem, c, hq, hj])
      refine ⟨h.x, rfl, ?_⟩
      simpa [AV.strip, AV.strips, Msg.bytes, Msg.rest, hq, subB, blobB] using hK
    · repeat' (first | (simp -dsimp only [↓reduceIte, go_sem, c, hq, hj, hk]) | (refine bI1 ?_))
      refine wInts_c 1 (l := [m.client]) (by (intro n hn; simp at hn; omega)) (by simp) (by omega) (by omega) h fun s h b => ?_
      have c := h.cell (k := k) (List.mem_cons_self ..)
      repeat' (first | (simp -dsimp only [↓reduceIte, go_sem, c, hq, hj, hk]) | (refine bD1 ?_))
      refine wDigs_c 1 (l := [m.own]) (by simp) (by omega) (by omega) h fun s h b => ?_
      have c := h.cell (k := k) (List.mem_cons_self ..)
      repeat' (simp -dsimp only [↓reduceIte, go_sem, c, hq, hj, hk])
      obtain ⟨tb, w1, w2, w3⟩ := h.w
      have c := cellAt_known w3
      repeat' (simp -dsimp only [↓reduceIte, go_sem, c, hq, hj])
      refine ⟨h.x, rfl, ?_⟩
      simpa [AV.strip, AV.strips, Msg.bytes, Msg.rest, hq, subB, blobB] using hK
  · rw [if_neg hok] at hK
    repeat' (simp -dsimp only [↓reduceIte, go_sem, hok])
    exact ⟨Ext.app _ _, rfl, by simpa [AV.strip, AV.strips] using hK⟩
attribute [local go_sem] Tryz.underlying3 Tryz.underlying32 zero_sub zt_sub built_sub zero_rep zt_rep built_rep zero_blob zt_blob built_blob
attribute [local go_sem] fits5 bin_sub_eql bin_pend_neq bin_blob_eql bin_dig23_eql bin_dig23_neq
attribute [local simp] dig_ext

theorem build_u8 {KV : AV → Prop} {y : UInt8} (h : KV (.slice .full (u8s [y]))) : buildSliceW Tryz.prog 123 1 [(0, .int .u8 y.toNat)] KV :=
  build_slice E51 rfl (by decide) (by simp [go_sem, fits_leaf (P := Tryz.prog) (t := 5) L01.agg5 (by kernel_rfl)]) (by simpa [u8s] using h)
theorem refBytes_c {d : Dig} {σ : AST} {K : AV → AST → Prop} (hK : K (.str d.l) σ) : TCalls Tryz.prog 108 [.dig d] σ K := by
  refine TCalls.drop ?_
  refine tcalls_walk Tryz.f108 _ [.tmp 2] Tryz.func108 rfl rfl rfl mixed (Nat.le_of_ble_eq_true rfl) rfl fun hlen => ?_
  repeat' (simp -dsimp only [↓reduceIte, go_sem])
  have hd := d.h
  have hx0 : Ext σ (σ.app [.cells (.dig d)]) := Ext.app _ _
  have ho0 : (σ.app [.cells (.dig d)]).objs[σ.objs.length]? = some (.cells (.dig d)) := objs_app0
  refine awp_rounds (fun (i : Nat) τ s => ∃ tk, i ≤ 32 ∧ Gr σ s tk i ∧ s.objs[σ.objs.length]? = some (.cells (.dig d)) ∧ τ 1 = .ptr (some (σ.objs.length, [])) ∧ τ 3 = .slice tk (u8s (d.l.take i)) ∧ τ 4 = .int .i64 i) (fun i => 32 - i) 0 ?_ ?_
  · refine ⟨.full, by omega, Gr.start' hx0, ho0, ?_, ?_, ?_⟩ <;> (try simp only [go_sem]) <;> rfl
  · rintro i τ s ⟨tk, hi, hg, ho, t1, t3, t4⟩
    have c := cellAt_known ho
    simp -dsimp only [↓reduceIte, go_sem, t1, t3, t4]
    refine boolW_split (fun hb => ?_) (fun hb => ?_)
    · have hb : i < 32 := by simp at hb; omega
      obtain ⟨y, hy, hm⟩ := get_of_lt (l := d.l) (i := i) (by omega)
      have htk : d.l.take (i + 1) = d.l.take i ++ [y] := by rw [List.take_add_one, hy]; simp
      have hle : (d.l.take i).length = i := by simp; omega
      repeat' (first | (simp -dsimp only [↓reduceIte, go_sem, t1, t3, t4, c, at_dig1, hy]) | (rw [wrap_i64 (by omega) (by omega)]) | (refine indexAddr_dig Tryz.underlying32 (by simp [go_sem]) (c []) hb ?_) | (refine build_u8 ?_) | (refine append_bytes E51 S51 (canApp_of hg.c hle) (by simp only [hle, List.length_cons, List.length_nil]; omega) (by simp only [maxL, hle, List.length_cons, List.length_nil]; omega) ?_))
      refine later_intro ⟨i + 1, by omega, growT s tk, by omega, ?_, ?_, ?_, ?_, ?_⟩ <;> (try simp only [go_sem, t1, t3, t4])
      · have := hg.grow (m := i + 1); simpa [hle] using this
      · rw [growS_objs]; exact ho
      · rw [htk]
      · rfl
    · have hb : i = 32 := by simp at hb; omega
      subst hb
      have ht : d.l.take 32 = d.l := List.take_of_length_le (by omega)
      rw [ht] at t3
      repeat' (simp -dsimp only [↓reduceIte, go_sem, t1, t3, t4])
      exact ⟨hg.x, rfl, by simpa [AV.strip] using hK⟩

theorem refInts_c {l : List Int} {tk : Tk} {σ : AST} {K : AV → AST → Prop} (hl : InI l) (hn : l.length ≤ 1000000) (hK : K (.str (l.flatMap numS)) σ) : TCalls Tryz.prog 68 [.slice tk (l.map (AV.int .i64))] σ K := by
  have hN := numsN hl
  refine tcalls_walk Tryz.f68 _ [.tmp 2] Tryz.func68 rfl rfl rfl mixed (Nat.le_of_ble_eq_true rfl) rfl fun hlen => ?_
  repeat' (simp -dsimp only [↓reduceIte, go_sem])
  refine awp_rounds (fun (i : Nat) τ s => i ≤ l.length ∧ s = σ ∧ τ 0 = .slice tk (l.map (AV.int .i64)) ∧ τ 3 = .str ((l.take i).flatMap numS) ∧ τ 4 = .int .i64 i) (fun i => l.length - i) 0 ?_ ?_
  · refine ⟨by omega, rfl, ?_, ?_, ?_⟩ <;> (try simp only [go_sem]) <;> rfl
  · rintro i τ s ⟨hi, rfl, t0, t3, t4⟩
    have hNi := hN i
    simp -dsimp only [↓reduceIte, go_sem, t0, t3, t4]
    refine arr_intro fun _ => ?_
    simp -dsimp only [↓reduceIte, go_sem, t0, t3, t4]
    refine boolW_split (fun hb => ?_) (fun hb => ?_)
    · have hb : i < l.length := by simp at hb; omega
      obtain ⟨y, hy, hm⟩ := get_of_lt hb
      have htk : (l.take (i + 1)).flatMap numS = (l.take i).flatMap numS ++ numS y := by
        rw [List.take_add_one, hy]; simp
      have h22 := numS_len (hl y hm).1 (hl y hm).2
      repeat' (first | (simp -dsimp only [↓reduceIte, go_sem, t0, t3, t4]) | (rw [wrap_i64 (by omega) (by omega)]) | (refine nth_get hy ?_) | (refine L01.Number_c (hl y hm).1 (hl y hm).2 ?_) | (refine side_later (by simp only [maxL, List.length_append]; omega) ?_))
      refine ⟨i + 1, by omega, by omega, rfl, ?_, ?_, ?_⟩ <;> (try simp only [go_sem, t0, t3, t4])
      · rw [htk]
      · rfl
    · have hb : i = l.length := by simp at hb; omega
      subst hb
      repeat' (simp -dsimp only [↓reduceIte, go_sem, t0, t3, t4])
      simpa using hK

theorem refText_c {t : List UInt8} {σ : AST} {K : AV → AST → Prop} (hn : t.length ≤ 1000000) (hK : K (.str (textS t)) σ) : TCalls Tryz.prog 69 [.str t] σ K := by
  have hd := dg_len20 (show t.length < 18446744073709551616 by omega)
  refine tcalls_walk Tryz.f69 _ [.tmp 2] Tryz.func69 rfl rfl rfl mixed (Nat.le_of_ble_eq_true rfl) rfl fun hlen => ?_
  repeat' (first | (simp -dsimp only [↓reduceIte, go_sem]) | (refine arr_intro fun _ => ?_) | (refine L01.Digits_c _ (by omega) ?_) | (refine side_later (by simp only [maxL, List.length_append, List.length_cons, List.length_nil]; omega) ?_))
  simpa [textS] using hK

theorem refDig_c {d : Dig} {σ : AST} {K : AV → AST → Prop} (hK : K (.str (digS d)) σ) : TCalls Tryz.prog 70 [.dig d] σ K := by
  refine TCalls.drop ?_
  refine tcalls_walk Tryz.f70 _ [.tmp 2] Tryz.func70 rfl rfl rfl mixed (Nat.le_of_ble_eq_true rfl) rfl fun hlen => ?_
  repeat' (first | (simp -dsimp only [↓reduceIte, go_sem]) | (refine refBytes_c ?_) | (refine refText_c (by simp [d.h]) ?_))
  exact ⟨Ext.app _ _, rfl, by simpa [AV.strip] using hK⟩

section
variable {σ : AST} {K : AV → AST → Prop} {tk : Tk}
theorem refInts2_c {a b : Int} (h : InI [a, b]) (hK : K (.str ([a, b].flatMap numS)) σ) : TCalls Tryz.prog 68 [.slice tk [.int .i64 a, .int .i64 b]] σ K := refInts_c (l := [a, b]) h (by simp) hK
theorem refInts3_c {a b c : Int} (h : InI [a, b, c]) (hK : K (.str ([a, b, c].flatMap numS)) σ) : TCalls Tryz.prog 68 [.slice tk [.int .i64 a, .int .i64 b, .int .i64 c]] σ K := refInts_c (l := [a, b, c]) h (by simp) hK
theorem refInts4_c {a b c d : Int} (h : InI [a, b, c, d]) (hK : K (.str ([a, b, c, d].flatMap numS)) σ) : TCalls Tryz.prog 68 [.slice tk [.int .i64 a, .int .i64 b, .int .i64 c, .int .i64 d]] σ K := refInts_c (l := [a, b, c, d]) h (by simp) hK
end
theorem InI.len {l : List Int} (h : InI l) : (l.flatMap numS).length ≤ l.length * 22 := by have := numsN h l.length; simpa using this
theorem digS_len (d : Dig) : (digS d).length ≤ 53 := textS_le (m := 32) (by simp [d.h]) (by omega)

theorem refAns_c {x : Rep} (hok : x.Ok) {tk : Tk} {σ : AST} {K : AV → AST → Prop} (hK : K (.str (ansB x)) σ) : TCalls Tryz.prog 71 [repV tk x] σ K := by
  obtain ⟨hp, h1, h2, h3, h4, h5, h6, h7, h8⟩ := hok
  simp only [In, ViewOk] at h1 h2 h5 h6 h7
  refine TCalls.drop ?_
  refine tcalls_walk Tryz.f71 _ [.tmp 2] Tryz.func71 rfl rfl rfl mixed (Nat.le_of_ble_eq_true rfl) rfl fun hlen => ?_
  have i1 : InI [x.num, x.last] := by (intro n hn; simp at hn; omega)
  have l1 := i1.len
  have l2 := textS_le (s := x.view) (m := 512) (by omega) (by omega)
  have l3 := digS_len x.commit
  have i4 : InI [(x.pending.length : Int)] := by (intro n hn; simp at hn; omega)
  have l4 := i4.len
  simp only [List.flatMap_cons, List.flatMap_nil, List.append_nil] at l4
  repeat' (first | (simp -dsimp only [↓reduceIte, go_sem]) | (refine arr_intro fun _ => ?_) | (with_reducible refine awp_drawS (id := 1) [0, 1, 2, 3, 4, 6, 7, 10, 11, 14, 15, 16, 5, 8, 9, 12, 13, 17, 18, 19] (by kernel_rfl) ?_) | (refine bI2 ?_) | (refine refInts2_c i1 ?_) | (refine refText_c (by omega) ?_) | (refine refDig_c ?_) | (refine L01.Number_c (by omega) (by omega) ?_) | (with_reducible refine side_later (by (simp only [maxL, List.length_append, List.length_cons, List.length_nil] at *; omega)) ?_))
  have hz : ∀ i, ((x.pending.take i).flatMap pendB).length ≤ x.pending.length * 194 := fun i => flatN fun p hm => by
    have h1 := numsN (hp p hm).in_ 4
    have h2 := digs_take (l := [p.asked, p.proof]) (i := 2)
    simp at h1 h2
    simp [pendB]; omega
  generalize hys : [x.num, x.last].flatMap numS ++ textS x.view ++ digS x.commit ++ numS x.pending.length = ys
  have hy : ys.length ≤ 2000 := by rw [← hys]; (simp only [maxL, List.length_append, List.length_cons, List.length_nil] at *; omega)
  refine awp_rounds (fun (i : Nat) τ s => i ≤ x.pending.length ∧ Ext σ s ∧ s.objs[σ.objs.length]? = some (.cells (repV tk x)) ∧ τ 1 = .ptr (some (σ.objs.length, [])) ∧ τ 3 = .str (ys ++ (x.pending.take i).flatMap pendB) ∧ τ 4 = .int .i64 i) (fun i => x.pending.length - i) 0 ?_ ?_
  · refine ⟨by omega, Ext.app _ _, objs_app0, ?_, ?_, ?_⟩ <;> (try simp only [go_sem]) <;> (try rfl)
    rw [← hys]; simp
  · rintro i τ s ⟨hi, hx, ho, t1, t3, t4⟩
    have hzi := hz i
    have c := cellAt_known ho
    have hlt := (List.getElem?_eq_some_iff.1 ho).1
    simp -dsimp only [↓reduceIte, go_sem, t1, t3, t4, c]
    refine arr_intro fun _ => ?_
    simp -dsimp only [↓reduceIte, go_sem, t1, t3, t4, c]
    refine boolW_split (fun hb => ?_) (fun hb => ?_)
    · have hb : i < x.pending.length := by simp at hb; omega
      obtain ⟨y, hy, hm⟩ := get_of_lt hb
      have htk : (x.pending.take (i + 1)).flatMap pendB = (x.pending.take i).flatMap pendB ++ pendB y := by
        rw [List.take_add_one, hy]; simp
      have hq := (hp y hm).in_
      have m1 := hq.len
      have m2 := digS_len y.asked
      have m3 := digS_len y.proof
      repeat' (first | (simp -dsimp only [↓reduceIte, go_sem, t1, t3, t4, c]) | (rw [wrap_i64 (by omega) (by omega)]) | (refine nth_get hy ?_) | (with_reducible refine awp_drawS (id := 6) [0, 1, 2, 3, 4, 5, 6, 7, 8, 9, 12, 13, 16, 17, 10, 11, 14, 15, 18, 19, 20] (by kernel_rfl) ?_) | (refine bI4 ?_) | (refine refInts4_c hq ?_) | (refine refDig_c ?_) | (with_reducible refine side_later (by (simp only [maxL, List.length_append, List.length_cons, List.length_nil] at *; omega)) ?_))
      refine later_intro ⟨i + 1, by omega, by omega, hx.trans (Ext.app _ _), objs_known_app ho _, ?_, ?_, ?_⟩ <;> (try simp only [go_sem, t1, t3, t4]) <;> (try rfl)
      rw [htk]; simp [pendB]
    · have hb : i = x.pending.length := by simp at hb; omega
      subst hb
      have i5 : InI [x.vnum] := by (intro n hn; simp at hn; omega)
      have l5 := i5.len
      simp only [List.flatMap_cons, List.flatMap_nil, List.append_nil] at l5
      have l6 := textS_le (s := x.value) (m := 256) (by omega) (by omega)
      have l7 := digS_len x.data
      have l8 := textS_le (s := x.seen) (m := 512) (by omega) (by omega)
      have l9 := digS_len x.seenTag
      repeat' (first | (simp -dsimp only [↓reduceIte, go_sem, t1, t3, t4, c]) | (with_reducible refine awp_drawS (id := 7) [0, 1, 2, 5, 6, 9, 10, 13, 14, 17, 18, 3, 4, 7, 8, 11, 12, 15, 16, 19, 20, 21] (by kernel_rfl) ?_) | (refine refText_c (by omega) ?_) | (refine refDig_c ?_) | (refine L01.Number_c (by omega) (by omega) ?_) | (with_reducible refine side_later (by (simp only [maxL, List.length_append, List.length_cons, List.length_nil] at *; omega)) ?_))
      refine ⟨hx, rfl, ?_⟩
      rw [← hys]
      simpa [AV.strip, ansB] using hK
theorem ansB_len {x : Rep} (hok : x.Ok) : (ansB x).length ≤ 100000 := by
  obtain ⟨hp, h1, h2, h3, h4, h5, h6, h7, h8⟩ := hok
  simp only [In, ViewOk] at h1 h2 h5 h6 h7
  have hz : (x.pending.flatMap pendB).length ≤ x.pending.length * 194 := flat_len fun p hm => by
    have h1 := numsN (hp p hm).in_ 4
    have h2 := digs_take (l := [p.asked, p.proof]) (i := 2)
    simp at h1 h2
    simp [pendB]; omega
  have i1 : InI [x.num, x.last] := by (intro n hn; simp at hn; omega)
  have l1 := i1.len
  have l2 := textS_le (s := x.view) (m := 512) (by omega) (by omega)
  have l3 := digS_len x.commit
  have i4 : InI [(x.pending.length : Int)] := by (intro n hn; simp at hn; omega)
  have l4 := i4.len
  have i5 : InI [x.vnum] := by (intro n hn; simp at hn; omega)
  have l5 := i5.len
  have l6 := textS_le (s := x.value) (m := 256) (by omega) (by omega)
  have l7 := digS_len x.data
  have l8 := textS_le (s := x.seen) (m := 512) (by omega) (by omega)
  have l9 := digS_len x.seenTag
  simp only [List.length_cons, List.length_nil, List.flatMap_cons, List.flatMap_nil, List.append_nil, List.length_append] at *
  simp only [ansB, List.length_append, List.flatMap_cons, List.flatMap_nil, List.append_nil]
  omega
theorem numS2 : numS 2 = [50, 59] := by rw [numS, if_neg (by decide)]; rw [show (2 : Int).natAbs = 2 from rfl, dg_small (by decide)]; rfl
theorem lay_c {m : Msg} (hok : m.Ok) {t u : Tk} {σ : AST} {K : AV → AST → Prop} (hK : K (.str m.bytes) σ) : TCalls Tryz.prog 30 [msgV t u m] σ K := by
  refine TCalls.drop ?_
  have hkinds := hok.kinds
  obtain ⟨hf, hc, ho⟩ := hok
  simp only [In] at hc
  have hk1 : 1 ≤ m.kind ∧ m.kind ≤ 11 := by omega
  have i1 : InI [m.kind, m.client] := by (intro n hn; simp at hn; omega)
  have l1 := i1.len
  have n2 := numS2
  refine tcalls_walk Tryz.f30 _ [.tmp 2] Tryz.func30 rfl rfl rfl mixed (Nat.le_of_ble_eq_true rfl) rfl fun hlen => ?_
  simp -dsimp only [↓reduceIte, go_sem]
  refine bI2 ?_
  simp -dsimp only [↓reduceIte, go_sem]
  refine refInts2_c i1 ?_
  simp -dsimp only [↓reduceIte, go_sem]
  rcases hkinds with ⟨hq, hs⟩ | ⟨hq, hs⟩ | ⟨hq, hs⟩ | ⟨hq, hs⟩ | ⟨hq, hs⟩ | ⟨hq, hs⟩ | ⟨hq, hs⟩ | ⟨hq, hs⟩ | hq | ⟨hq, hs⟩ | hq
  · rw [hq] at l1
    obtain ⟨o1, o2, o3, o4⟩ := hs
    simp only [In] at o1 o2 o3
    have i2 : InI [m.sub.num, m.sub.kind, m.sub.target] := by (intro n hn; simp at hn; omega)
    have l2 := i2.len
    have l3 := textS_le (s := m.sub.value) (m := 256) (by omega) (by omega)
    have l4 := digS_len m.sub.asked
    have l5 := digS_len m.sub.data
    repeat' (first | (simp -dsimp only [↓reduceIte, go_sem, hq]) | (with_reducible refine awp_drawS (id := 4) [0, 1, 2, 3, 4, 5, 6, 7, 8, 9, 10, 13, 14, 15, 18, 19, 20, 23, 24, 25, 11, 12, 16, 17, 21, 22, 26, 27, 28] (by kernel_rfl) ?_) | (refine bI3 ?_) | (refine refDig_c ?_) | (with_reducible refine side_later (by (simp only [maxL, List.length_append, List.length_cons, List.length_nil] at *; omega)) ?_) | (refine refInts3_c i2 ?_) | (refine refText_c (by omega) ?_))
    refine ⟨Ext.app _ _, rfl, ?_⟩
    simpa [AV.strip, Msg.bytes, Msg.rest, hq, subB, blobB, laidAll, part_all] using hK
  · rw [hq] at l1
    have l2 := ansB_len hs
    repeat' (first | (simp -dsimp only [↓reduceIte, go_sem, hq]) | (with_reducible refine side_later (by (simp only [maxL, List.length_append, List.length_cons, List.length_nil] at *; omega)) ?_) | (refine refAns_c hs ?_))
    refine ⟨Ext.app _ _, rfl, ?_⟩
    simpa [AV.strip, Msg.bytes, Msg.rest, hq, subB, blobB, n2] using hK
  · rw [hq] at l1
    obtain ⟨_, o1, o2, _⟩ := hs
    have l2 := textS_le (s := m.view) (m := 512) (by omega) (by omega)
    have l4 := digS_len m.tag
    repeat' (first | (simp -dsimp only [↓reduceIte, go_sem, hq]) | (with_reducible refine awp_drawS (id := 8) [0, 1, 2, 5, 6, 3, 4, 7, 8, 9] (by kernel_rfl) ?_) | (refine refDig_c ?_) | (with_reducible refine side_later (by (simp only [maxL, List.length_append, List.length_cons, List.length_nil] at *; omega)) ?_) | (refine refText_c (by omega) ?_))
    refine ⟨Ext.app _ _, rfl, ?_⟩
    simpa [AV.strip, Msg.bytes, Msg.rest, hq, subB, blobB, laidAll, part_all] using hK
  · rw [hq] at l1
    obtain ⟨o1, o2, o3⟩ := hs
    simp only [In] at o1 o2
    have i2 : InI [m.blob.owner, m.blob.num] := by (intro n hn; simp at hn; omega)
    have l2 := i2.len
    have l3 := textS_le (s := m.blob.cipher) (m := 4096) (by omega) (by omega)
    have l4 := digS_len m.blob.tag
    have l6 := numS_len (n := m.kind) (by omega) (by omega)
    rw [hq] at l6
    repeat' (first | (simp -dsimp only [↓reduceIte, go_sem, hq]) | (with_reducible refine awp_drawS (id := 11) [0, 1, 3, 4, 5, 6, 7, 8, 9, 12, 13, 14, 17, 18, 19, 2, 10, 11, 15, 16, 20, 21, 22] (by kernel_rfl) ?_) | (refine bI2 ?_) | (refine refDig_c ?_) | (with_reducible refine side_later (by (simp only [maxL, List.length_append, List.length_cons, List.length_nil] at *; omega)) ?_) | (refine L01.Number_c (by omega) (by omega) ?_) | (refine refInts2_c i2 ?_) | (refine refText_c (by omega) ?_))
    refine ⟨Ext.app _ _, rfl, ?_⟩
    simpa [AV.strip, Msg.bytes, Msg.rest, hq, subB, blobB, laidAll, part_all] using hK
  · rw [hq] at l1
    have i2 := hs.in_
    have l2 := i2.len
    have hs2 := hs.2
    simp only [In] at hs2
    repeat' (first | (simp -dsimp only [↓reduceIte, go_sem, hq]) | (with_reducible refine side_later (by (simp only [maxL, List.length_append, List.length_cons, List.length_nil] at *; omega)) ?_) | (refine refInts_c hs.in_ (by omega) ?_))
    refine ⟨Ext.app _ _, rfl, ?_⟩
    simpa [AV.strip, Msg.bytes, Msg.rest, hq, subB, blobB, laidAll, part_all] using hK
  · rw [hq] at l1
    obtain ⟨o1, o2, o3⟩ := hs
    simp only [In] at o1 o2
    have i2 : InI [m.blob.owner, m.blob.num] := by (intro n hn; simp at hn; omega)
    have l2 := i2.len
    have l3 := textS_le (s := m.blob.cipher) (m := 4096) (by omega) (by omega)
    have l4 := digS_len m.blob.tag
    have l6 := numS_len (n := m.kind) (by omega) (by omega)
    rw [hq] at l6
    repeat' (first | (simp -dsimp only [↓reduceIte, go_sem, hq]) | (with_reducible refine awp_drawS (id := 11) [0, 1, 3, 4, 5, 6, 7, 8, 9, 12, 13, 14, 17, 18, 19, 2, 10, 11, 15, 16, 20, 21, 22] (by kernel_rfl) ?_) | (refine bI2 ?_) | (refine refDig_c ?_) | (with_reducible refine side_later (by (simp only [maxL, List.length_append, List.length_cons, List.length_nil] at *; omega)) ?_) | (refine L01.Number_c (by omega) (by omega) ?_) | (refine refInts2_c i2 ?_) | (refine refText_c (by omega) ?_))
    refine ⟨Ext.app _ _, rfl, ?_⟩
    simpa [AV.strip, Msg.bytes, Msg.rest, hq, subB, blobB, laidAll, part_all] using hK
  · rw [hq] at l1
    have i2 := hs.in_
    have l2 := i2.len
    have hs2 := hs.2
    simp only [In] at hs2
    repeat' (first | (simp -dsimp only [↓reduceIte, go_sem, hq]) | (with_reducible refine side_later (by (simp only [maxL, List.length_append, List.length_cons, List.length_nil] at *; omega)) ?_) | (refine refInts_c hs.in_ (by omega) ?_))
    refine ⟨Ext.app _ _, rfl, ?_⟩
    simpa [AV.strip, Msg.bytes, Msg.rest, hq, subB, blobB, laidAll, part_all] using hK
  · rw [hq] at l1
    have i2 := hs.in_
    have l2 := i2.len
    have hs2 := hs.2
    simp only [In] at hs2
    repeat' (first | (simp -dsimp only [↓reduceIte, go_sem, hq]) | (with_reducible refine side_later (by (simp only [maxL, List.length_append, List.length_cons, List.length_nil] at *; omega)) ?_) | (refine refInts_c hs.in_ (by omega) ?_))
    refine ⟨Ext.app _ _, rfl, ?_⟩
    simpa [AV.strip, Msg.bytes, Msg.rest, hq, subB, blobB, laidAll, part_all] using hK
  · rw [hq] at l1
    repeat' (simp -dsimp only [↓reduceIte, go_sem, hq])
    refine ⟨Ext.app _ _, rfl, ?_⟩
    simpa [AV.strip, Msg.bytes, Msg.rest, hq, subB, blobB, laidAll, part_all] using hK
  · rw [hq] at l1
    obtain ⟨o0, _, o1, o2, _⟩ := hs
    simp only [In] at o0
    have l2 := textS_le (s := m.view) (m := 512) (by omega) (by omega)
    have l4 := digS_len m.tag
    have l6 := numS_len (n := m.by_) (by omega) (by omega)
    have l7 := digS_len m.own
    repeat' (first | (simp -dsimp only [↓reduceIte, go_sem, hq]) | (with_reducible refine awp_drawS (id := 17) [0, 1, 2, 5, 6, 9, 10, 13, 14, 3, 4, 7, 8, 11, 12, 15, 16, 17] (by kernel_rfl) ?_) | (refine refDig_c ?_) | (with_reducible refine side_later (by (simp only [maxL, List.length_append, List.length_cons, List.length_nil] at *; omega)) ?_) | (refine L01.Number_c (by omega) (by omega) ?_) | (refine refText_c (by omega) ?_))
    refine ⟨Ext.app _ _, rfl, ?_⟩
    simpa [AV.strip, Msg.bytes, Msg.rest, hq, subB, blobB, laidAll, part_all] using hK
  · rw [hq] at l1
    have l7 := digS_len m.own
    repeat' (first | (simp -dsimp only [↓reduceIte, go_sem, hq]) | (refine refDig_c ?_) | (with_reducible refine side_later (by (simp only [maxL, List.length_append, List.length_cons, List.length_nil] at *; omega)) ?_))
    refine ⟨Ext.app _ _, rfl, ?_⟩
    simpa [AV.strip, Msg.bytes, Msg.rest, hq, subB, blobB, laidAll, part_all] using hK
theorem appc {α : Type} {a : α} {l m : List α} : List.append (a :: l) m = a :: List.append l m := rfl
theorem appn {α : Type} {m : List α} : List.append [] m = m := rfl
attribute [local go_sem] bin_bool_ne appc appn

theorem refHist_c {t : List UInt8} {k : Int} {σ : AST} {K : AV → AST → Prop} (hk : -9223372036854775808 < k) (hk2 : k ≤ 9223372036854775807) (hK : K (.bool (decide (ViewOk k t))) σ) : TCalls Tryz.prog 66 [.str t, .int .i64 k] σ K := by
  refine tcalls_walk Tryz.f66 _ [.tmp 4] Tryz.func66 rfl rfl rfl mixed (Nat.le_of_ble_eq_true rfl) rfl fun hlen => ?_
  have hll : t.length ≤ 9223372036854775807 := hlen (.str t) (by simp)
  repeat' (first | (simp -dsimp only [↓reduceIte, go_sem]) | (refine arr_intro fun _ => ?_) | (refine guardV_split (fun h => ?_) (fun h => ?_) <;> (try rw [h]) <;> (try simp at h) <;> (try (exfalso; omega))))
  all_goals first
    | exact bool_end hK (by rw [eq_comm, decide_eq_false_iff_not]; intro hv; have := hv.2; omega)
    | skip
  refine awp_rounds (fun (i : Nat) τ s => s = σ ∧ i ≤ t.length ∧ (∀ (j : Nat) b, j < i → t[j]? = some b → (b.toNat : Int) < k) ∧ τ 0 = .str t ∧ τ 1 = .int .i64 k ∧ τ 5 = .int .i64 i) (fun i => t.length - i) 0 ?_ ?_
  · refine ⟨rfl, by omega, fun j y hj => by omega, ?_, ?_, ?_⟩ <;> (try simp only [go_sem]) <;> rfl
  · rintro i τ s ⟨rfl, hi, hall, t0, t1, t5⟩
    simp -dsimp only [↓reduceIte, go_sem, t0, t1, t5]
    refine arr_intro fun _ => ?_
    simp -dsimp only [↓reduceIte, go_sem, t0, t1, t5]
    refine boolW_split (fun hb => ?_) (fun hb => ?_)
    · have hb : i < t.length := by simp at hb; omega
      obtain ⟨y, hy, hm⟩ := get_of_lt hb
      have hy8 : (y.toNat : Int) < 256 := by have := y.toNat_lt; omega
      repeat' (first | (simp -dsimp only [↓reduceIte, go_sem, t0, t1, t5]) | (rw [wrap_i64 (by omega) (by omega)]) | (refine guardV_split (fun h => ?_) (fun h => ?_) <;> (try rw [h]) <;> (try simp at h) <;> (try (exfalso; omega))) | (refine nth_get hy ?_))
      · exact bool_end hK (by
          rw [eq_comm, decide_eq_false_iff_not]
          intro hv; have := hv.1 y hm; omega)
      · refine later_intro ⟨i + 1, by omega, rfl, by omega, ?_, ?_, ?_, ?_⟩ <;> (try simp only [go_sem, t0, t1, t5]) <;> (try rfl)
        intro j b hj hb'
        by_cases hji : j < i
        · exact hall j b hji hb'
        · obtain rfl : j = i := by omega
          rw [hy] at hb'; cases hb'; omega
    · have hb : i = t.length := by simp at hb; omega
      have ha : ∀ b ∈ t, (b.toNat : Int) < k := fun b hb2 => by
        obtain ⟨j, hj⟩ := List.mem_iff_getElem?.1 hb2
        exact hall j b (by have := (List.getElem?_eq_some_iff.1 hj).1; omega) hj
      repeat' (simp -dsimp only [↓reduceIte, go_sem, t0, t1, t5])
      exact bool_end hK (by rw [eq_comm, decide_eq_true_eq]; exact ⟨ha, by omega, by omega, by omega⟩)

theorem refNums_c {l : List Int} {tk : Tk} {σ : AST} {K : AV → AST → Prop} (hK : K (.bool (decide (NumsOk l))) σ) : TCalls Tryz.prog 67 [.slice tk (l.map (AV.int .i64))] σ K := by
  refine tcalls_walk Tryz.f67 _ [.tmp 2] Tryz.func67 rfl rfl rfl mixed (Nat.le_of_ble_eq_true rfl) rfl fun hlen => ?_
  have hll : l.length ≤ 9223372036854775807 := by simpa [maxL, lenOk] using hlen _ (List.mem_cons_self ..)
  repeat' (simp -dsimp only [↓reduceIte, go_sem])
  refine awp_rounds (fun (i : Nat) τ s => s = σ ∧ i ≤ l.length ∧ (∀ (j : Nat) n, j < i → l[j]? = some n → In 0 1099511627776 n ∧ ∀ m, 0 < j → l[j - 1]? = some m → m < n) ∧ τ 0 = .slice tk (l.map (AV.int .i64)) ∧ τ 3 = .int .i64 i) (fun i => l.length - i) 0 ?_ ?_
  · refine ⟨rfl, by omega, fun j y h => by omega, ?_, ?_⟩ <;> (try simp only [go_sem]) <;> rfl
  · rintro i τ s ⟨rfl, hi, hall, t0, t3⟩
    simp -dsimp only [↓reduceIte, go_sem, t0, t3]
    refine arr_intro fun _ => ?_
    simp -dsimp only [↓reduceIte, go_sem, t0, t3]
    refine boolW_split (fun hb => ?_) (fun hb => ?_)
    · have hb : i < l.length := by simp at hb; omega
      obtain ⟨y, hy, hm⟩ := get_of_lt hb
      have step : In 0 1099511627776 y → (∀ m, 0 < i → l[i - 1]? = some m → m < y) → ∀ (j : Nat) n, j < i + 1 → l[j]? = some n → In 0 1099511627776 n ∧ ∀ m, 0 < j → l[j - 1]? = some m → m < n := fun h1 h2 j n hj hn => by
        by_cases hji : j < i
        · exact hall j n hji hn
        · obtain rfl : j = i := by omega
          rw [hy] at hn; cases hn; exact ⟨h1, h2⟩
      repeat' (first | (simp -dsimp only [↓reduceIte, go_sem, t0, t3]) | (rw [wrap_i64 (by omega) (by omega)]) | (refine guardV_split (fun h => ?_) (fun h => ?_) <;> (try rw [h]) <;> (try simp at h) <;> (try (exfalso; omega))) | (with_reducible refine awp_drawS (id := 4) [0, 1, 2, 3, 4, 5, 6, 7, 8, 9, 10, 11, 12, 13, 14, 15, 16, 17, 18, 19, 20, 21] (by kernel_rfl) ?_) | (refine nth_get hy ?_) | (refine nth_pred hy (by omega) ?_) | (refine Within_c ?_))
      · refine bool_endD hK ?_
        simp only [Bool.false_eq_true, false_iff]
        intro h; have := (h.1 i y hy).2 _ (by assumption) (get_pred hy (by assumption)); omega
      · refine later_intro ⟨i + 1, by omega, rfl, by omega, step (by assumption) (fun m h0 hm => by rw [get_pred hy h0] at hm; cases hm; omega), ?_, ?_⟩ <;> (try simp only [go_sem, t0, t3]) <;> rfl
      · refine later_intro ⟨i + 1, by omega, rfl, by omega, step (by assumption) (fun m h0 hm => by omega), ?_, ?_⟩ <;> (try simp only [go_sem, t0, t3]) <;> rfl
      · refine bool_endD hK ?_
        simp only [Bool.false_eq_true, false_iff]
        intro h; exact absurd (h.1 i y hy).1 (by assumption)
    · have hb : i = l.length := by simp at hb; omega
      subst hb
      repeat' (first | (simp -dsimp only [↓reduceIte, go_sem, t0, t3]) | (refine arr_intro fun _ => ?_) | (refine Within_c ?_))
      refine bool_endD hK ?_
      simp only [decide_eq_true_eq]
      exact ⟨fun h => ⟨fun j n hn => hall j n (List.getElem?_eq_some_iff.1 hn).1 hn, h⟩, fun h => h.2⟩

theorem asks_c {a b c : Int} {σ : AST} {K : AV → AST → Prop} (hK : K (.bool (decide (In 1 512 a ∧ In 1 2 b ∧ In 0 7 c))) σ) : TCalls Tryz.prog 64 [.int .i64 a, .int .i64 b, .int .i64 c] σ K := by
  refine tcalls_walk Tryz.f64 _ [.tmp 6] Tryz.func64 rfl rfl rfl mixed (Nat.le_of_ble_eq_true rfl) rfl fun hlen => ?_
  repeat' (first | (simp -dsimp only [↓reduceIte, go_sem]) | (refine guardV_split (fun h => ?_) (fun h => ?_) <;> (try rw [h]) <;> (try simp at h) <;> (try (exfalso; omega))) | (refine Within_c ?_))
  all_goals exact bool_endD hK (by simp_all)
theorem refSameReply_c {a b : Rep} {ta tb : Tk} {σ : AST} {K : AV → AST → Prop} (hK : K (.bool (decide (a = b))) σ) : TCalls Tryz.prog 73 [repV ta a, repV tb b] σ K := by
  refine TCalls.drop ?_
  refine tcalls_walk Tryz.f73 _ [.tmp 4] Tryz.func73 rfl rfl rfl mixed (Nat.le_of_ble_eq_true rfl) rfl fun hlen => ?_
  repeat' (first | (simp -dsimp only [↓reduceIte, go_sem]) | (refine arr_intro fun _ => ?_) | (refine guardV_split (fun h => ?_) (fun h => ?_) <;> (try rw [h]) <;> (try simp at h) <;> (try (exfalso; omega))))
  · refine bool_endDX (Ext.app _ _) hK ?_
    simp only [Bool.false_eq_true, false_iff]; rintro rfl; omega
  · have hab : a.pending.length = b.pending.length := by omega
    have hx : Ext σ (σ.app [.cells (repV ta a), .cells (repV tb b)]) := Ext.app _ _
    refine awp_rounds (fun (i : Nat) τ s => s = σ.app [.cells (repV ta a), .cells (repV tb b)] ∧ i ≤ a.pending.length ∧ (∀ (j : Nat) x y, j < i → a.pending[j]? = some x → b.pending[j]? = some y → x = y) ∧ τ 2 = .ptr (some (σ.objs.length, [])) ∧ τ 3 = .ptr (some (σ.objs.length + 1, [])) ∧ τ 5 = .int .i64 i) (fun i => a.pending.length - i) 0 ?_ ?_
    · refine ⟨rfl, by omega, fun j x y h => by omega, ?_, ?_, ?_⟩ <;> (try simp only [go_sem]) <;> rfl
    · rintro i τ s ⟨rfl, hi, hall, t2, t3, t5⟩
      simp -dsimp only [↓reduceIte, go_sem, t2, t3, t5]
      refine arr_intro fun _ => ?_
      have hll : a.pending.length ≤ 9223372036854775807 := by simpa [maxL] using ‹a.pending.length ≤ maxL›
      simp -dsimp only [↓reduceIte, go_sem, t2, t3, t5]
      refine boolW_split (fun hb => ?_) (fun hb => ?_)
      · have hb : i < a.pending.length := by simp at hb; omega
        obtain ⟨x, hax⟩ := get_lt hb
        obtain ⟨y, hby⟩ := get_lt (l := b.pending) (i := i) (by omega)
        repeat' (first | (simp -dsimp only [↓reduceIte, go_sem, t2, t3, t5]) | (rw [wrap_i64 (by omega) (by omega)]) | (refine guardV_split (fun h => ?_) (fun h => ?_) <;> (try rw [h]) <;> (try simp at h) <;> (try (exfalso; omega))) | (with_reducible refine awp_drawS (id := 6) [0, 1, 2, 3, 4, 5, 6, 7, 8, 9, 10] (by kernel_rfl) ?_) | (refine nth_get hax ?_) | (refine nth_get hby ?_))
        · refine bool_endDX hx hK ?_
          simp only [Bool.false_eq_true, false_iff]; rintro rfl; rw [hax] at hby; cases hby; exact absurd rfl (by assumption)
        · refine later_intro ⟨i + 1, by omega, rfl, by omega, all_next hall hax hby (by assumption), ?_, ?_, ?_⟩ <;> (try simp only [go_sem, t2, t3, t5]) <;> rfl
      · have hb : i = a.pending.length := by simp at hb; omega
        subst hb
        have hp : a.pending = b.pending := ext_to hab hall
        repeat' (first | (simp -dsimp only [↓reduceIte, go_sem, t2, t3, t5]) | (refine guardV_split (fun h => ?_) (fun h => ?_) <;> (try rw [h]) <;> (try simp at h) <;> (try (exfalso; omega))))
        all_goals ((refine bool_endDX (Ext.app _ _) hK ?_; simp_all [Rep.iff] <;> fail))
  all_goals
    refine bool_endDX (Ext.app _ _) hK ?_
    simp only [Bool.false_eq_true, false_iff]; rintro rfl; simp_all
theorem refSame_c {a b : Msg} {ta ua tb ub : Tk} {σ : AST} {K : AV → AST → Prop} (hK : K (.bool (decide (a = b))) σ) : TCalls Tryz.prog 31 [msgV ta ua a, msgV tb ub b] σ K := by
  refine TCalls.drop ?_
  refine tcalls_walk Tryz.f31 _ [.tmp 4] Tryz.func31 rfl rfl rfl mixed (Nat.le_of_ble_eq_true rfl) rfl fun hlen => ?_
  have hx : Ext σ (σ.app [.cells (msgV ta ua a), .cells (msgV tb ub b)]) := Ext.app _ _
  repeat' (first | (simp -dsimp only [↓reduceIte, go_sem]) | (refine guardV_split (fun h => ?_) (fun h => ?_) <;> (try rw [h]) <;> (try simp at h) <;> (try (exfalso; omega))) | (refine L01.ints_c ?_) | (refine refSameReply_c ?_))
  all_goals (refine bool_endDX hx hK ?_)
  all_goals (first | (simp_all [Msg.iff] <;> fail) | trace_state)
theorem refReply_c {x : Rep} {tk : Tk} {σ : AST} {K : AV → AST → Prop} (hK : K (.bool (decide x.Ok)) σ) : TCalls Tryz.prog 65 [repV tk x] σ K := by
  refine TCalls.drop ?_
  refine tcalls_walk Tryz.f65 _ [.tmp 2] Tryz.func65 rfl rfl rfl mixed (Nat.le_of_ble_eq_true rfl) rfl fun hlen => ?_
  repeat' (simp -dsimp only [↓reduceIte, go_sem])
  have bad : ∀ s, Ext σ s → ¬ x.Ok → Ext σ s ∧ (AV.bool false).noRef = true ∧ K (AV.bool false).strip σ := fun s hx h => bool_endDX hx hK (by simpa using h)
  generalize hO : AObj.cells (repV tk x) = O
  refine awp_rounds (fun (i : Nat) τ s => Ext (σ.app [O]) s ∧ i ≤ x.pending.length ∧ (∀ (j : Nat) p, j < i → x.pending[j]? = some p → p.Ok) ∧ τ 1 = .ptr (some (σ.objs.length, [])) ∧ τ 3 = .int .i64 i) (fun i => x.pending.length - i) 0 ?_ ?_
  · refine ⟨Ext.refl _, by omega, fun j y h => by omega, ?_, ?_⟩ <;> (try simp only [go_sem]) <;> rfl
  · rintro i τ s ⟨hx, hi, hall, t1, t3⟩
    have hxx : Ext σ s := (Ext.app _ _).trans hx
    have hc : ∀ p, cellAt s σ.objs.length p = (repV tk x).at p := fun p => cell_ext0 hx (by rw [← hO]; rfl) p
    simp -dsimp only [↓reduceIte, go_sem, t1, t3, hc]
    refine arr_intro fun _ => ?_
    have hll : x.pending.length ≤ 9223372036854775807 := by simpa [maxL] using ‹x.pending.length ≤ maxL›
    simp -dsimp only [↓reduceIte, go_sem, t1, t3, hc]
    refine boolW_split (fun hb => ?_) (fun hb => ?_)
    · have hb : i < x.pending.length := by simp at hb; omega
      obtain ⟨y, hy, hm⟩ := get_of_lt hb
      repeat' (first | (simp -dsimp only [↓reduceIte, go_sem, t1, t3, hc]) | (rw [wrap_i64 (by omega) (by omega)]) | (refine guardV_split (fun h => ?_) (fun h => ?_) <;> (try rw [h]) <;> (try simp at h) <;> (try (exfalso; omega))) | (refine nth_get hy ?_) | (refine Within_c ?_) | (refine asks_c ?_))
      all_goals first
        | exact bad _ (hxx.trans (Ext.app _ _)) (fun h => by have := h.1 y hm; simp_all [Pend.Ok])
        | skip
      refine later_intro ⟨i + 1, by omega, hx.trans (Ext.app _ _), by omega, ?_, ?_, ?_⟩ <;> (try simp only [go_sem, t1, t3]) <;> (try rfl)
      intro j p hj hp
      by_cases hji : j < i
      · exact hall j p hji hp
      · obtain rfl : j = i := by omega
        rw [hy] at hp; cases hp; simp_all [Pend.Ok]
    · have hb : i = x.pending.length := by simp at hb; omega
      subst hb
      have ha : ∀ p ∈ x.pending, p.Ok := fun p hp => by
        obtain ⟨j, hj⟩ := List.mem_iff_getElem?.1 hp
        exact hall j p (List.getElem?_eq_some_iff.1 hj).1 hj
      clear hx hO
      have hx := hxx
      repeat' (first | (simp -dsimp only [↓reduceIte, go_sem, t1, t3, hc]) | (refine arr_intro fun _ => ?_) | (refine guardV_split (fun h => ?_) (fun h => ?_) <;> (try rw [h]) <;> (try simp at h) <;> (try (exfalso; omega))) | (refine Within_c ?_) | (refine refHist_c (by omega) (by omega) ?_))
      all_goals (first | (refine bool_endDX hx hK ?_; simp_all [Rep.Ok, view_last] <;> fail) | (refine bool_endDX hx hK ?_; simp [Rep.Ok, view_last]; omega) | (refine bool_endDX hx hK ?_; simp_all [Rep.Ok, view_last]; omega))
end Go.Aff.L10

