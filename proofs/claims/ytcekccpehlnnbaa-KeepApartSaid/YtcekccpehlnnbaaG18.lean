import Derived.Test.YtcekccpehlnnbaaG17

/- Layer 25, walked: which states may be. -/
namespace Go.Aff.L25
open Go.Proofs Go.Aff Go.Aff.L01 Classical
set_option linter.unusedVariables false
set_option linter.unusedSimpArgs false
theorem fits22 {v : AV} : fits Try.prog 22 v = (v.isAgg = false ∧ v.size = 1) := fits_leaf (by kernel_rfl) (by kernel_rfl)
theorem fits23 {v : AV} : fits Try.prog 23 v = (v.isAgg = false ∧ v.size = 1) := fits_leaf (by kernel_rfl) (by kernel_rfl)
theorem fits29 {v : AV} : fits Try.prog 29 v = (v.isAgg = true ∧ v.size = 5) := fits_agg (by kernel_rfl) (by kernel_rfl)
theorem fits25' {v : AV} : fits Try.prog 25 v = (v.isAgg = true ∧ v.size = 5) := fits_agg (by kernel_rfl) (by kernel_rfl)
theorem p29_0 {ps : List AV} {x : AV} : partIs Try.prog 29 ps 0 x = (0 = AV.sizes (ps.take 0) ∧ fits Try.prog 9 x) := partIs_of (by kernel_rfl)
theorem p29_1 {ps : List AV} {x : AV} : partIs Try.prog 29 ps 1 x = (1 = AV.sizes (ps.take 1) ∧ fits Try.prog 9 x) := partIs_of (by kernel_rfl)
theorem p29_2 {ps : List AV} {x : AV} : partIs Try.prog 29 ps 2 x = (2 = AV.sizes (ps.take 2) ∧ fits Try.prog 9 x) := partIs_of (by kernel_rfl)
theorem p29_3 {ps : List AV} {x : AV} : partIs Try.prog 29 ps 3 x = (3 = AV.sizes (ps.take 3) ∧ fits Try.prog 22 x) := partIs_of (by kernel_rfl)
theorem p29_4 {ps : List AV} {x : AV} : partIs Try.prog 29 ps 4 x = (4 = AV.sizes (ps.take 4) ∧ fits Try.prog 23 x) := partIs_of (by kernel_rfl)
theorem p25_0 {ps : List AV} {x : AV} : partIs Try.prog 25 ps 0 x = (0 = AV.sizes (ps.take 0) ∧ fits Try.prog 9 x) := partIs_of (by kernel_rfl)
theorem p25_1 {ps : List AV} {x : AV} : partIs Try.prog 25 ps 1 x = (1 = AV.sizes (ps.take 1) ∧ fits Try.prog 9 x) := partIs_of (by kernel_rfl)
theorem p25_2 {ps : List AV} {x : AV} : partIs Try.prog 25 ps 2 x = (2 = AV.sizes (ps.take 2) ∧ fits Try.prog 9 x) := partIs_of (by kernel_rfl)
theorem p25_3 {ps : List AV} {x : AV} : partIs Try.prog 25 ps 3 x = (3 = AV.sizes (ps.take 3) ∧ fits Try.prog 22 x) := partIs_of (by kernel_rfl)
theorem p25_4 {ps : List AV} {x : AV} : partIs Try.prog 25 ps 4 x = (4 = AV.sizes (ps.take 4) ∧ fits Try.prog 23 x) := partIs_of (by kernel_rfl)
theorem p45_0 {ps : List AV} {x : AV} : partIs Try.prog 45 ps 0 x = (0 = AV.sizes (ps.take 0) ∧ fits Try.prog 9 x) := partIs_of (by kernel_rfl)
theorem p45_1 {ps : List AV} {x : AV} : partIs Try.prog 45 ps 1 x = (1 = AV.sizes (ps.take 1) ∧ fits Try.prog 9 x) := partIs_of (by kernel_rfl)
theorem p45_2 {ps : List AV} {x : AV} : partIs Try.prog 45 ps 2 x = (2 = AV.sizes (ps.take 2) ∧ fits Try.prog 9 x) := partIs_of (by kernel_rfl)
attribute [local go_sem] Try.underlying3 Try.underlying4 Try.underlying5 Try.underlying9 Try.underlying22 Try.underlying23 Try.underlying25 Try.underlying26 Try.underlying29 Try.underlying44 Try.underlying45 Try.underlying47 Try.underlying53 fits3 fits9 fits53 p53_0 p53_1 fits22 fits23 fits29 fits25' p29_0 p29_1 p29_2 p29_3 p29_4 p25_0 p25_1 p25_2 p25_3 p25_4
attribute [local go_sem] push_app app_app length_app cellAt_app cellAt_app0 set_app set_app0 objs_app objs_app0 List.cons_append List.nil_append List.length_cons List.length_nil List.getElem?_cons_zero List.getElem?_cons_succ List.set_cons_zero List.set_cons_succ
attribute [-go_sem] cellAt_new

def stateV (t1 t2 : Tk) (s : St) : AV := .agg [.str s.w, .str s.p, .str s.b, .slice t1 (s.puts.map pieceV), .slice t2 (s.prunes.map (AV.int .i64))]

theorem build45 {a b c : List UInt8} {KV : AV → Prop} (hK : KV (.agg ([a, b, c].map AV.str))) :
    ZeroOf Try.prog 45 (zeroA Try.prog 12 45) ∧ (zeroA Try.prog 12 45).isAgg = true ∧ Built Try.prog 45 ∧ fillW Try.prog 45 [(0, .str a), (1, .str b), (2, .str c)] (zeroA Try.prog 12 45) KV := by
  have hz : zeroA Try.prog 12 45 = .agg [.str [], .str [], .str []] := by kernel_rfl
  rw [hz]
  refine ⟨⟨_, _, rfl, rfl, rfl, rfl, rfl⟩, rfl, by unfold Built; rw [Try.underlying45]; show (Try.prog.info? 9).isSome = true; kernel_rfl, ?_⟩
  refine fill_cons rfl (by rw [p45_0, fits9]; exact ⟨rfl, rfl, by simp [AV.size]⟩) rfl rfl (fill_cons rfl (by rw [p45_1, fits9]; exact ⟨by simp [AV.sizes, AV.size], rfl, by simp [AV.size]⟩) rfl rfl (fill_cons rfl (by rw [p45_2, fits9]; exact ⟨by simp [AV.sizes, AV.size], rfl, by simp [AV.size]⟩) rfl rfl ?_))
  rw [fill_nil]; exact hK
theorem index45 {xs : List (List UInt8)} {i : Nat} {x : List UInt8} {KV : AV → Prop} (hl : xs.length = 3) (hi : xs[i]? = some x) (hK : KV (.str x)) : indexW Try.prog 45 (.agg (xs.map AV.str)) (.int .i64 i) KV :=
  index_strs Try.underlying45 agg9 cells9 hl hi hK

theorem right_c {st : St} {t1 t2 : Tk} {σ : AST} {K : AV → AST → Prop} (hlp : st.puts.length ≤ 5864062014634) (hK : K (.bool (decide st.Right)) σ) : TCalls Try.prog 19 [stateV t1 t2 st] σ K := by
  refine TCalls.drop ?_
  unfold stateV
  refine tcalls_walk Try.f19 _ [.tmp 2] Try.func19 rfl rfl rfl mixed (Nat.le_of_ble_eq_true rfl) rfl fun hlen => ?_
  have bad : ∀ s, ¬ st.Right → Ext σ s → Ext σ s ∧ (AV.bool false).noRef = true ∧ K (AV.bool false).strip σ := fun s h hx => ⟨hx, rfl, by rw [decide_eq_false h] at hK; exact hK⟩
  simp -dsimp only [↓reduceIte, go_sem]
  refine build45 ?_
  simp -dsimp only [↓reduceIte, go_sem]
  generalize hV : (AV.agg [.str st.w, .str st.p, .str st.b, .slice t1 (st.puts.map pieceV), .slice t2 (st.prunes.map (AV.int .i64))]) = V
  refine awp_rounds (fun (i : Nat) τ s => i ≤ 3 ∧ s = σ.app [.cells V] ∧ τ 1 = .ptr (some (σ.objs.length, [])) ∧ τ 15 = .agg ([st.w, st.p, st.b].map AV.str) ∧ τ 16 = .int .i64 i ∧ ∀ (j : Nat) t, j < i → [st.w, st.p, st.b][j]? = some t → t.length ≤ 16384) (fun i => 3 - i) 0 ?_ ?_
  · refine ⟨by omega, rfl, ?_, ?_, ?_, fun j t h => by omega⟩ <;> simp only [go_sem] <;> rfl
  · rintro i τ s ⟨hi, rfl, t1', t15, t16, hall⟩
    simp -dsimp only [↓reduceIte, go_sem, t1', t15, t16]
    refine boolW_split (fun hb => ?_) (fun hb => ?_)
    · have hb : i < 3 := by simp at hb; omega
      obtain ⟨t, ht⟩ := get_lt (l := [st.w, st.p, st.b]) (i := i) (by simpa using hb)
      simp -dsimp only [↓reduceIte, go_sem, t1', t15, t16]
      refine index45 rfl ht ?_
      simp -dsimp only [↓reduceIte, go_sem, t1', t15, t16]
      refine arr_intro fun _ => ?_
      simp -dsimp only [↓reduceIte, go_sem, t1', t15, t16]
      refine boolW_split (fun hc => ?_) (fun hc => ?_)
      · have hc : 16384 < t.length := by simp at hc; omega
        simp -dsimp only [↓reduceIte, go_sem, t1', t15, t16]
        refine bad _ (fun hR => ?_) (Ext.app _ _)
        rcases i with _ | _ | _ | i <;> simp at ht <;> subst ht <;> first | (have := hR.1; omega) | (have := hR.2.1; omega) | (have := hR.2.2.1; omega)
      · have hc : t.length ≤ 16384 := by simp at hc; omega
        simp -dsimp only [↓reduceIte, go_sem, t1', t15, t16]
        rw [wrap_i64 (by omega) (by omega)]
        refine later_intro ⟨i + 1, by omega, by omega, rfl, ?_, ?_, ?_, fun j u hj hu => ?_⟩ <;> (try simp only [go_sem, t1', t15, t16]) <;> try rfl
        by_cases e : j = i
        · subst e; rw [ht] at hu; cases hu; exact hc
        · exact hall j u (by omega) hu
    · have hb : i = 3 := by simp at hb; omega
      subst hb
      have hw := hall 0 st.w (by omega) rfl
      have hp := hall 1 st.p (by omega) rfl
      have hbk := hall 2 st.b (by omega) rfl
      subst hV
      simp -dsimp only [↓reduceIte, go_sem, t1', t15, t16]
      refine arr_intro fun _ => ?_
      simp only [List.length_map]
      simp -dsimp only [↓reduceIte, go_sem, t1', t15, t16]
      refine awp_rounds (fun (i : Nat) τ s => i ≤ st.puts.length ∧ Ext (σ.app [.cells (.agg [.str st.w, .str st.p, .str st.b, .slice t1 (st.puts.map pieceV), .slice t2 (st.prunes.map (AV.int .i64))])]) s ∧ τ 1 = .ptr (some (σ.objs.length, [])) ∧ τ 24 = .slice t1 (st.puts.map pieceV) ∧ τ 25 = .int .i64 st.puts.length ∧ τ 26 = .int .i64 i ∧ ∀ (j : Nat) x, j < i → st.puts[j]? = some x → x.2.length ≤ 4096) (fun i => st.puts.length - i) 0 ?_ ?_
      · refine ⟨by omega, Ext.refl _, ?_, ?_, ?_, ?_, fun j t h => by omega⟩ <;> simp only [go_sem, t1'] <;> rfl
      · rintro i τ s ⟨hi, hx, t1', t24, t25, t26, hall⟩
        have hcell := fun p => cell_ext0 hx (v := .agg [.str st.w, .str st.p, .str st.b, .slice t1 (st.puts.map pieceV), .slice t2 (st.prunes.map (AV.int .i64))]) rfl p
        have hxx : Ext σ s := (Ext.app _ _).trans hx
        simp -dsimp only [↓reduceIte, go_sem, t1', t24, t25, t26]
        refine boolW_split (fun hb => ?_) (fun hb => ?_)
        · have hb : i < st.puts.length := by simp at hb; omega
          obtain ⟨x, hx1⟩ := get_lt hb
          simp -dsimp only [↓reduceIte, go_sem, t1', t24, t25, t26]
          refine nth_get hx1 ?_
          simp -dsimp only [↓reduceIte, go_sem, t1', t24, t25, t26, piece_isAgg, piece_size, piece_known]
          rw [zero53]
          refine ⟨zeroOf53, later_intro ?_⟩
          simp -dsimp only [↓reduceIte, go_sem, t1', t24, t25, t26, piece_isAgg, piece_size, piece_known]
          refine side_later (by simp [pieceV, AV.shape, AV.shapes]) ?_
          simp -dsimp only [↓reduceIte, go_sem, t1', t24, t25, t26, pieceV]
          refine arr_intro fun _ => ?_
          simp -dsimp only [↓reduceIte, go_sem, t1', t24, t25, t26, pieceV]
          refine boolW_split (fun hc => ?_) (fun hc => ?_)
          · have hc : 4096 < x.2.length := by simp at hc; omega
            simp -dsimp only [↓reduceIte, go_sem, t1', t24, t25, t26, pieceV]
            refine bad _ (fun hR => ?_) (hxx.trans (Ext.app _ _))
            have := hR.2.2.2.1 x (List.mem_iff_getElem?.2 ⟨i, hx1⟩)
            omega
          · have hc : x.2.length ≤ 4096 := by simp at hc; omega
            simp -dsimp only [↓reduceIte, go_sem, t1', t24, t25, t26, pieceV]
            rw [wrap_i64 (by omega) (by omega)]
            refine later_intro ⟨i + 1, by omega, by omega, hx.trans (Ext.app _ _), ?_, ?_, ?_, ?_, fun j u hj hu => ?_⟩ <;> (try simp only [go_sem, t1', t24, t25, t26]) <;> try rfl
            by_cases e : j = i
            · subst e; rw [hx1] at hu; cases hu; exact hc
            · exact hall j u (by omega) hu
        · have hb : i = st.puts.length := by simp at hb; omega
          subst hb
          have hpt : ∀ x ∈ st.puts, x.2.length ≤ 4096 := fun x hx => by
            obtain ⟨j, hj⟩ := List.mem_iff_getElem?.1 hx
            exact hall j x (List.getElem?_eq_some_iff.1 hj).1 hj
          simp -dsimp only [↓reduceIte, go_sem, t1', t24, t25, t26, hcell]
          refine parts_c hlp ?_
          obtain ⟨ta, hta⟩ := slS_tk (f := AV.int .i64) (l := st.puts.map (·.1))
          rw [hta]
          simp -dsimp only [↓reduceIte, go_sem, t1', t24, t25, t26, hcell]
          refine arr_intro fun _ => ?_
          simp only [List.length_map]
          simp -dsimp only [↓reduceIte, go_sem, t1', t24, t25, t26, hcell]
          refine guardV_split (fun h1 => ?_) (fun h1 => ?_) <;> (try rw [h1])
          · have h1 : st.puts.length ≤ 256 := by simp at h1; omega
            simp -dsimp only [↓reduceIte, go_sem, t1', t24, t25, t26, hcell]
            refine rises_c ?_
            by_cases h2 : Rises (st.puts.map (·.1))
            · rw [decide_eq_true h2]
              simp -dsimp only [↓reduceIte, go_sem, t1', t24, t25, t26, hcell]
              refine arr_intro fun _ => ?_
              simp only [List.length_map]
              simp -dsimp only [↓reduceIte, go_sem, t1', t24, t25, t26, hcell]
              refine guardV_split (fun h3 => ?_) (fun h3 => ?_) <;> (try rw [h3])
              · have h3 : st.prunes.length ≤ 64 := by simp at h3; omega
                simp -dsimp only [↓reduceIte, go_sem, t1', t24, t25, t26, hcell]
                refine rises_c ?_
                have : decide (Rises st.prunes) = decide st.Right := by
                  by_cases h4 : Rises st.prunes
                  · rw [decide_eq_true h4, decide_eq_true ⟨hw, hp, hbk, hpt, h1, h2, h3, h4⟩]
                  · rw [decide_eq_false h4, decide_eq_false (fun h => h4 h.2.2.2.2.2.2.2)]
                rw [this]
                simp -dsimp only [↓reduceIte, go_sem, t1', t24, t25, t26, hcell]
                exact ⟨hxx, rfl, hK⟩
              · have h3 : ¬ st.prunes.length ≤ 64 := by simp at h3; omega
                simp -dsimp only [↓reduceIte, go_sem, t1', t24, t25, t26, hcell]
                exact bad _ (fun h => h3 h.2.2.2.2.2.2.1) hxx
            · rw [decide_eq_false h2]
              simp -dsimp only [↓reduceIte, go_sem, t1', t24, t25, t26, hcell]
              exact bad _ (fun h => h2 h.2.2.2.2.2.1) hxx
          · have h1 : ¬ st.puts.length ≤ 256 := by simp at h1; omega
            simp -dsimp only [↓reduceIte, go_sem, t1', t24, t25, t26, hcell]
            exact bad _ (fun h => h1 h.2.2.2.2.1) hxx
end Go.Aff.L25

/- Layer 25, walked: states as bytes. -/
namespace Go.Aff.L25
open Go.Proofs Go.Aff Go.Aff.L01 Classical
set_option linter.unusedVariables false
set_option linter.unusedSimpArgs false
attribute [local go_sem] Try.underlying3 Try.underlying4 Try.underlying5 Try.underlying9 Try.underlying22 Try.underlying23 Try.underlying25 Try.underlying26 Try.underlying29 Try.underlying44 Try.underlying45 Try.underlying47 Try.underlying53 Try.underlying67 fits3 fits9 fits53 p53_0 p53_1 fits22 fits23 fits29 fits25' p29_0 p29_1 p29_2 p29_3 p29_4 p25_0 p25_1 p25_2 p25_3 p25_4
attribute [local go_sem] push_app app_app length_app cellAt_app cellAt_app0 set_app set_app0 objs_app objs_app0 List.cons_append List.nil_append List.length_cons List.length_nil List.getElem?_cons_zero List.getElem?_cons_succ List.set_cons_zero List.set_cons_succ
attribute [-go_sem] cellAt_new

theorem laidAll_len {α : Type} {f : α → List UInt8} {l : List α} {m : Nat} (h : ∀ x ∈ l, (f x).length ≤ m) : (laidAll f l).length ≤ 2 + l.length * m := by
  have := part_len (f := f) (l := l) (m := m) (i := l.length) h (Nat.le_refl _)
  simp only [laidAll, List.length_append, List.length_cons, List.length_nil]; omega
theorem textsR_right {l : List (List UInt8)} (h1 : l.length ≤ 512) (h2 : ∀ s ∈ l, s.length ≤ 16384) : textsR l = .tuple [.str (laidAll textS l), .int .i64 0] := by
  unfold textsR
  rw [if_neg]
  rintro (h | ⟨s, hs, h⟩)
  · omega
  · have := h2 s hs; omega

/-- What Put tells. -/
noncomputable def putR (s : St) : AV := if s.Right then .tuple [.str s.laid, .int .i64 0] else .tuple [.str [], .int .i64 2]

theorem put_c {st : St} {t1 t2 : Tk} {σ : AST} {K : AV → AST → Prop} (hlp : st.puts.length ≤ 5864062014634) (hK : K (putR st) σ) : TCalls Try.prog 8 [stateV t1 t2 st] σ K := by
  refine TCalls.drop ?_
  unfold stateV
  refine tcalls_walk Try.f8 _ [.tmp 2, .tmp 3] Try.func8 rfl rfl rfl mixed (Nat.le_of_ble_eq_true rfl) rfl fun hlen => ?_
  have hfold : (AV.agg [.str st.w, .str st.p, .str st.b, .slice t1 (st.puts.map pieceV), .slice t2 (st.prunes.map (AV.int .i64))]) = stateV t1 t2 st := rfl
  simp -dsimp only [↓reduceIte, go_sem]
  rw [hfold]
  refine right_c hlp ?_
  by_cases hR : st.Right
  · rw [decide_eq_true hR]
    rw [putR, if_pos hR] at hK
    obtain ⟨hw, hp, hb, hpt, hpl, hri, hnl, hrn⟩ := id hR
    unfold stateV
    simp -dsimp only [↓reduceIte, go_sem]
    refine build45 ?_
    simp -dsimp only [↓reduceIte, go_sem]
    have hfl : st.laid = [st.w, st.p, st.b].flatMap textS ++ laidAll numS (st.puts.map (·.1)) ++ laidAll textS (st.puts.map (·.2)) ++ laidAll numS st.prunes := by
      simp [St.laid]
    have hall : ∀ t ∈ [st.w, st.p, st.b], ¬ 16384 < t.length := by
      intro t ht; simp at ht; rcases ht with rfl | rfl | rfl <;> omega
    have hl3 : [st.w, st.p, st.b].length = 3 := rfl
    have hLm : AV.agg [.str st.w, .str st.p, .str st.b] = .agg ([st.w, st.p, st.b].map AV.str) := rfl
    generalize hV : (AV.agg [.str st.w, .str st.p, .str st.b, .slice t1 (st.puts.map pieceV), .slice t2 (st.prunes.map (AV.int .i64))]) = V
    generalize [st.w, st.p, st.b] = L at *
    refine awp_rounds (fun (i : Nat) τ s => i ≤ 3 ∧ Ext (σ.app [.cells V]) s ∧ τ 1 = .ptr (some (σ.objs.length, [])) ∧ τ 26 = .agg (L.map AV.str) ∧ τ 27 = .int .i64 i ∧ ∃ tk, tkNew σ tk ∧ canApp s tk ((L.take i).flatMap textS).length 1 ∧ τ 4 = .slice tk (u8s ((L.take i).flatMap textS))) (fun i => 3 - i) 0 ?_ ?_
    · refine ⟨by omega, Ext.refl _, ?_, ?_, ?_, .full, .inl rfl, trivial, ?_⟩ <;> simp only [go_sem] <;> first | rfl | exact hLm
    · rintro i τ s ⟨hi, hx, t1', t26, t27, tk, htk, hcan, t4⟩
      have hxx : Ext σ s := (Ext.app _ _).trans hx
      have hlen3 : ((L.take i).flatMap textS).length ≤ 49215 := by
        have h1 := flat_len (f := textS) (m := 16405) (l := L.take i) (fun x hx => textS_len (hall x (List.mem_of_mem_take hx)))
        have h2 : (L.take i).length ≤ 3 := by rw [List.length_take]; omega
        exact Nat.le_trans h1 (Nat.mul_le_mul_right _ h2)
      have htk2 : tk = .full ∨ ∃ k, tk = .own k ∧ (σ.app [.cells V]).toks.length ≤ k := htk
      simp -dsimp only [↓reduceIte, go_sem, t1', t26, t27, t4]
      refine boolW_split (fun hbb => ?_) (fun hbb => ?_)
      · have hbb : i < 3 := by simp at hbb; omega
        obtain ⟨t, ht⟩ := get_lt (l := L) (i := i) (by omega)
        have htl := hall t (List.mem_iff_getElem?.2 ⟨i, ht⟩)
        have htl2 := textS_len htl
        simp -dsimp only [↓reduceIte, go_sem, t1', t26, t27, t4]
        refine index45 hl3 ht ?_
        simp -dsimp only [↓reduceIte, go_sem, t1', t26, t27, t4]
        refine text_c ?_
        rw [if_neg htl]
        simp -dsimp only [↓reduceIte, go_sem, t1', t26, t27, t4]
        refine append_text E51 Try.underlying9 hcan (by omega) (by simp only [maxL]; omega) ?_
        simp -dsimp only [↓reduceIte, go_sem, t1', t26, t27, t4]
        rw [wrap_i64 (by omega) (by omega)]
        have happ : ((L.take (i + 1)).flatMap textS) = ((L.take i).flatMap textS) ++ textS t := flat_take ht
        refine later_intro ⟨i + 1, by omega, by omega, hx.grow htk2, ?_, ?_, ?_, growT s tk, htk.grow hxx, ?_, ?_⟩ <;> (try simp only [go_sem, t1', t26, t27, t4]) <;> try rfl
        · rw [happ, List.length_append]; exact canApp_grow hcan
        · rw [happ]
      · have hbb : i = 3 := by simp at hbb; omega
        subst hbb
        subst hV
        rw [show L.take 3 = L by rw [← hl3, List.take_length]] at t4 hcan hlen3
        generalize L.flatMap textS = A at *
        have hcell := fun p => cell_ext0 hx (v := .agg [.str st.w, .str st.p, .str st.b, .slice t1 (st.puts.map pieceV), .slice t2 (st.prunes.map (AV.int .i64))]) rfl p
        simp -dsimp only [↓reduceIte, go_sem, t1', t26, t27, t4, hcell]
        refine parts_c hlp ?_
        obtain ⟨ta, hta⟩ := slS_tk (f := AV.int .i64) (l := st.puts.map (·.1))
        obtain ⟨tb, htb⟩ := slS_tk (f := AV.str) (l := st.puts.map (·.2))
        rw [hta, htb]
        simp -dsimp only [↓reduceIte, go_sem, t1', t26, t27, t4, hcell]
        refine numbers_c (rises_range hri) ?_
        rw [if_neg (by simp; omega)]
        have lA := laidAll_len (f := numS) (l := st.puts.map (·.1)) (m := 22) (fun x hx => numS_len (rises_range hri x hx).1 (rises_range hri x hx).2)
        have lB := laidAll_len (f := textS) (l := st.puts.map (·.2)) (m := 16405) (fun t ht => textS_len (by
          obtain ⟨x, hx, rfl⟩ := List.mem_map.1 ht
          have := hpt x hx; omega))
        have lC := laidAll_len (f := numS) (l := st.prunes) (m := 22) (fun x hx => numS_len (rises_range hrn x hx).1 (rises_range hrn x hx).2)
        simp only [List.length_map] at lA lB
        simp -dsimp only [↓reduceIte, go_sem, t1', t26, t27, t4, hcell]
        refine texts_c ?_
        rw [textsR_right (by simp; omega) (by
          intro t ht
          obtain ⟨x, hx, rfl⟩ := List.mem_map.1 ht
          have := hpt x hx; omega)]
        simp -dsimp only [↓reduceIte, go_sem, t1', t26, t27, t4, hcell]
        refine numbers_c (rises_range hrn) ?_
        rw [if_neg (by omega)]
        generalize laidAll numS (st.puts.map (·.1)) = B at *
        generalize laidAll textS (st.puts.map (·.2)) = C at *
        generalize laidAll numS st.prunes = D at *
        simp -dsimp only [↓reduceIte, go_sem, t1', t26, t27, t4, hcell]
        refine append_text E51 Try.underlying9 hcan (by omega) (by simp only [maxL]; omega) ?_
        simp -dsimp only [↓reduceIte, go_sem, t1', t26, t27, t4, hcell]
        refine append_text E51 Try.underlying9 (by rw [List.length_append]; exact canApp_grow hcan) (by simp only [List.length_append]; omega) (by simp only [maxL, List.length_append]; omega) ?_
        rw [growT_growS, growS_growS hcan]
        simp -dsimp only [↓reduceIte, go_sem, t1', t26, t27, t4, hcell]
        refine append_text E51 Try.underlying9 (by rw [(List.length_append : (A ++ B ++ C).length = _)]; exact canApp_grow hcan) (by simp only [List.length_append]; omega) (by simp only [maxL, List.length_append]; omega) ?_
        rw [growT_growS, growS_growS hcan]
        simp -dsimp only [↓reduceIte, go_sem, t1', t26, t27, t4, hcell]
        rw [hfl] at hK
        refine ⟨hxx.grow ?_, rfl, hK⟩
        exact htk
  · rw [decide_eq_false hR]
    rw [putR, if_neg hR] at hK
    unfold stateV
    simp -dsimp only [↓reduceIte, go_sem]
    exact ⟨Ext.app _ _, rfl, hK⟩
end Go.Aff.L25

/- Layer 25, walked: the reference: which states may be, their bytes. -/
namespace Go.Aff.L25
open Go.Proofs Go.Aff Go.Aff.L01 Classical
set_option linter.unusedVariables false
set_option linter.unusedSimpArgs false
attribute [local go_sem] Try.underlying3 Try.underlying4 Try.underlying5 Try.underlying9 Try.underlying22 Try.underlying23 Try.underlying25 Try.underlying26 Try.underlying29 Try.underlying44 Try.underlying45 Try.underlying47 Try.underlying53 Try.underlying67 fits3 fits9 fits53 p53_0 p53_1 fits22 fits23 fits29 fits25' p29_0 p29_1 p29_2 p29_3 p29_4 p25_0 p25_1 p25_2 p25_3 p25_4
attribute [local go_sem] push_app app_app length_app cellAt_app cellAt_app0 set_app set_app0 objs_app objs_app0 List.cons_append List.nil_append List.length_cons List.length_nil List.getElem?_cons_zero List.getElem?_cons_succ List.set_cons_zero List.set_cons_succ
attribute [-go_sem] cellAt_new

theorem Text10_c {s : List UInt8} (hs : s.length ≤ 1000000) {σ : AST} {K : AV → AST → Prop} (hK : K (.str (textS s)) σ) : TCalls Try.prog 26 [.str s] σ K := by
  refine tcalls_walk Try.f26 _ [.tmp 2] Try.func26 rfl rfl rfl mixed (Nat.le_of_ble_eq_true rfl) rfl fun hlen => ?_
  have hd := dg_len20 (n := s.length) (by omega)
  simp -dsimp only [↓reduceIte, go_sem]
  refine arr_intro fun _ => ?_
  simp -dsimp only [↓reduceIte, go_sem]
  refine Digits_i (by omega) (by omega) ?_
  simp -dsimp only [↓reduceIte, go_sem]
  refine side_later (by simp [maxL]; omega) ?_
  simp -dsimp only [↓reduceIte, go_sem]
  refine side_later (by simp [maxL]; omega) ?_
  simp -dsimp only [↓reduceIte, go_sem]
  exact hK

theorem Ints10_c {l : List Int} (hl : ∀ n ∈ l, -9223372036854775808 ≤ n ∧ n ≤ 9223372036854775807) (hn : l.length ≤ 100000) {tk : Tk} {σ : AST} {K : AV → AST → Prop} (hK : K (.str (l.flatMap numS)) σ) : TCalls Try.prog 27 [.slice tk (l.map (AV.int .i64))] σ K := by
  refine tcalls_walk Try.f27 _ [.tmp 2] Try.func27 rfl rfl rfl mixed (Nat.le_of_ble_eq_true rfl) rfl fun hlen => ?_
  simp -dsimp only [↓reduceIte, go_sem]
  refine awp_rounds (fun (i : Nat) τ s => i ≤ l.length ∧ s = σ ∧ τ 0 = .slice tk (l.map (AV.int .i64)) ∧ τ 4 = .int .i64 i ∧ τ 3 = .str ((l.take i).flatMap numS)) (fun i => l.length - i) 0 ?_ ?_
  · refine ⟨by omega, rfl, ?_, ?_, ?_⟩ <;> simp only [go_sem] <;> rfl
  · rintro i τ s ⟨hi, rfl, t0, t4, t3⟩
    have hcat := flat_len (f := numS) (m := 22) (l := l.take i) (fun x hx => numS_len (hl x (List.mem_of_mem_take hx)).1 (hl x (List.mem_of_mem_take hx)).2)
    rw [List.length_take, Nat.min_eq_left hi] at hcat
    simp -dsimp only [↓reduceIte, go_sem, t0, t3, t4]
    refine arr_intro fun _ => ?_
    simp only [List.length_map]
    simp -dsimp only [↓reduceIte, go_sem, t0, t3, t4]
    refine boolW_split (fun hb => ?_) (fun hb => ?_)
    · have hb : i < l.length := by simp at hb; omega
      obtain ⟨n, hn⟩ := get_lt hb
      have hr := hl n (List.mem_iff_getElem?.2 ⟨i, hn⟩)
      have hnl := numS_len hr.1 hr.2
      simp -dsimp only [↓reduceIte, go_sem, t0, t3, t4]
      refine nth_get hn ?_
      simp -dsimp only [↓reduceIte, go_sem, t0, t3, t4]
      refine Number_c hr.1 hr.2 ?_
      simp -dsimp only [↓reduceIte, go_sem, t0, t3, t4]
      refine side_later (by simp only [maxL, List.length_append]; omega) ?_
      simp -dsimp only [↓reduceIte, go_sem, t0, t3, t4]
      rw [wrap_i64 (by omega) (by omega)]
      refine later_intro ⟨i + 1, by omega, by omega, rfl, ?_, ?_, ?_⟩ <;> (try simp only [go_sem, t0, t3, t4]) <;> try rfl
      rw [flat_take hn]
    · have hb : i = l.length := by simp at hb; omega
      subst hb
      rw [List.take_length] at t3
      simp -dsimp only [↓reduceIte, go_sem, t0, t3, t4]
      exact hK

theorem Right_c {st : St} {t1 t2 : Tk} {σ : AST} {K : AV → AST → Prop} (hlp : st.puts.length ≤ 5864062014634) (hK : K (.bool (decide st.Right)) σ) : TCalls Try.prog 11 [stateV t1 t2 st] σ K := by
  refine TCalls.drop ?_
  unfold stateV
  refine tcalls_walk Try.f11 _ [.tmp 2] Try.func11 rfl rfl rfl mixed (Nat.le_of_ble_eq_true rfl) rfl fun hlen => ?_
  have bad : ∀ s, ¬ st.Right → Ext σ s → Ext σ s ∧ (AV.bool false).noRef = true ∧ K (AV.bool false).strip σ := fun s h hx => ⟨hx, rfl, by rw [decide_eq_false h] at hK; exact hK⟩
  simp -dsimp only [↓reduceIte, go_sem]
  refine awp_rounds (fun (i : Nat) τ s => i ≤ st.puts.length ∧ Ext (σ.app [.cells (.agg [.str st.w, .str st.p, .str st.b, .slice t1 (st.puts.map pieceV), .slice t2 (st.prunes.map (AV.int .i64))])]) s ∧ τ 1 = .ptr (some (σ.objs.length, [])) ∧ τ 4 = .int .i64 i ∧
    (∀ (j : Nat) x, j < i → st.puts[j]? = some x → x.2.length ≤ 4096) ∧ ∃ tk, tkNew σ tk ∧ canApp s tk i 1 ∧ τ 3 = .slice tk (((st.puts.take i).map (·.1)).map (AV.int .i64))) (fun i => st.puts.length - i) 0 ?_ ?_
  · refine ⟨by omega, Ext.refl _, ?_, ?_, fun j t h => by omega, .full, .inl rfl, trivial, ?_⟩ <;> simp only [go_sem] <;> rfl
  · rintro i τ s ⟨hi, hx, t1', t4, hall, tk, htk, hcan, t3⟩
    have hcell := fun p => cell_ext0 hx (v := .agg [.str st.w, .str st.p, .str st.b, .slice t1 (st.puts.map pieceV), .slice t2 (st.prunes.map (AV.int .i64))]) rfl p
    have hxx : Ext σ s := (Ext.app _ _).trans hx
    have htk2 : tk = .full ∨ ∃ k, tk = .own k ∧ (σ.app [.cells (.agg [.str st.w, .str st.p, .str st.b, .slice t1 (st.puts.map pieceV), .slice t2 (st.prunes.map (AV.int .i64))])]).toks.length ≤ k := htk
    simp -dsimp only [↓reduceIte, go_sem, t1', t3, t4, hcell]
    refine arr_intro fun _ => ?_
    simp only [List.length_map]
    simp -dsimp only [↓reduceIte, go_sem, t1', t3, t4, hcell]
    refine boolW_split (fun hb => ?_) (fun hb => ?_)
    · have hb : i < st.puts.length := by simp at hb; omega
      obtain ⟨x, hx1⟩ := get_lt hb
      simp -dsimp only [↓reduceIte, go_sem, t1', t3, t4, hcell]
      refine nth_get hx1 ?_
      simp -dsimp only [↓reduceIte, go_sem, t1', t3, t4, hcell, pieceV]
      refine arr_intro fun _ => ?_
      simp -dsimp only [↓reduceIte, go_sem, t1', t3, t4, hcell]
      refine boolW_split (fun hc => ?_) (fun hc => ?_)
      · have hc : 4096 < x.2.length := by simp at hc; omega
        simp -dsimp only [↓reduceIte, go_sem, t1', t3, t4, hcell]
        refine bad _ (fun hR => ?_) hxx
        have := hR.2.2.2.1 x (List.mem_iff_getElem?.2 ⟨i, hx1⟩)
        omega
      · have hc : x.2.length ≤ 4096 := by simp at hc; omega
        simp -dsimp only [↓reduceIte, go_sem, t1', t3, t4, hcell]
        refine nth_get hx1 ?_
        simp -dsimp only [↓reduceIte, go_sem, t1', t3, t4, hcell, pieceV]
        refine build_slice E23 rfl (by decide) ?_ ?_
        · intro v hv
          simp at hv; subst hv
          exact ⟨by simp only [go_sem], rfl⟩
        have hmin : min i st.puts.length = i := Nat.min_eq_left (Nat.le_of_lt hb)
        have hl4 : (((st.puts.take i).map (·.1)).map (AV.int .i64)).length = i := by simp [hmin]
        simp -dsimp only [↓reduceIte, go_sem, t1', t3, t4, hcell]
        refine append_slice E23 (by rfl) (by rw [hl4]; exact hcan) (by intro v hv; simp at hv; subst hv; simp only [go_sem]) size_ints (by rw [hl4]; simp; omega) (by rw [hl4]; simp [maxL]; omega) ?_
        rw [hl4]
        simp -dsimp only [↓reduceIte, go_sem, t1', t3, t4, hcell]
        rw [wrap_i64 (by omega) (by omega)]
        have htk3 : st.puts.take (i + 1) = st.puts.take i ++ [x] := by rw [List.take_add_one, hx1]; rfl
        refine later_intro ⟨i + 1, by omega, by omega, hx.grow htk2, ?_, ?_, fun j u hj hu => ?_, growT s tk, htk.grow hxx, ?_, ?_⟩ <;> (try simp only [go_sem, t1', t3, t4]) <;> try rfl
        · by_cases e : j = i
          · subst e; rw [hx1] at hu; cases hu; exact hc
          · exact hall j u (by omega) hu
        · exact canApp_grow hcan
        · rw [htk3]; simp
    · have hb : i = st.puts.length := by simp at hb; omega
      subst hb
      rw [List.take_length] at t3
      have hpt : ∀ x ∈ st.puts, x.2.length ≤ 4096 := fun x hx => by
        obtain ⟨j, hj⟩ := List.mem_iff_getElem?.1 hx
        exact hall j x (List.getElem?_eq_some_iff.1 hj).1 hj
      simp -dsimp only [↓reduceIte, go_sem, t1', t3, t4, hcell]
      refine arr_intro fun _ => ?_
      simp -dsimp only [↓reduceIte, go_sem, t1', t3, t4, hcell]
      refine guardV_split (fun h1 => ?_) (fun h1 => ?_) <;> (try rw [h1])
      · have h1 : st.w.length ≤ 16384 := by simp at h1; omega
        simp -dsimp only [↓reduceIte, go_sem, t1', t3, t4, hcell]
        refine arr_intro fun _ => ?_
        simp -dsimp only [↓reduceIte, go_sem, t1', t3, t4, hcell]
        refine guardV_split (fun h2 => ?_) (fun h2 => ?_) <;> (try rw [h2])
        · have h2 : st.p.length ≤ 16384 := by simp at h2; omega
          simp -dsimp only [↓reduceIte, go_sem, t1', t3, t4, hcell]
          refine arr_intro fun _ => ?_
          simp -dsimp only [↓reduceIte, go_sem, t1', t3, t4, hcell]
          refine guardV_split (fun h3 => ?_) (fun h3 => ?_) <;> (try rw [h3])
          · have h3 : st.b.length ≤ 16384 := by simp at h3; omega
            simp -dsimp only [↓reduceIte, go_sem, t1', t3, t4, hcell]
            refine arr_intro fun _ => ?_
            simp only [List.length_map]
            simp -dsimp only [↓reduceIte, go_sem, t1', t3, t4, hcell]
            refine guardV_split (fun h4 => ?_) (fun h4 => ?_) <;> (try rw [h4])
            · have h4 : st.puts.length ≤ 256 := by simp at h4; omega
              simp -dsimp only [↓reduceIte, go_sem, t1', t3, t4, hcell]
              refine rise_c ?_
              by_cases h5 : Rises (st.puts.map (·.1))
              · rw [decide_eq_true h5]
                simp -dsimp only [↓reduceIte, go_sem, t1', t3, t4, hcell]
                refine arr_intro fun _ => ?_
                simp only [List.length_map]
                simp -dsimp only [↓reduceIte, go_sem, t1', t3, t4, hcell]
                refine guardV_split (fun h6 => ?_) (fun h6 => ?_) <;> (try rw [h6])
                · have h6 : st.prunes.length ≤ 64 := by simp at h6; omega
                  simp -dsimp only [↓reduceIte, go_sem, t1', t3, t4, hcell]
                  refine rise_c ?_
                  have : decide (Rises st.prunes) = decide st.Right := by
                    by_cases h7 : Rises st.prunes
                    · rw [decide_eq_true h7, decide_eq_true ⟨h1, h2, h3, hpt, h4, h5, h6, h7⟩]
                    · rw [decide_eq_false h7, decide_eq_false (fun h => h7 h.2.2.2.2.2.2.2)]
                  rw [this]
                  simp -dsimp only [↓reduceIte, go_sem, t1', t3, t4, hcell]
                  exact ⟨hxx, rfl, hK⟩
                · have h6 : ¬ st.prunes.length ≤ 64 := by simp at h6; omega
                  simp -dsimp only [↓reduceIte, go_sem, t1', t3, t4, hcell]
                  exact bad _ (fun h => h6 h.2.2.2.2.2.2.1) hxx
              · rw [decide_eq_false h5]
                simp -dsimp only [↓reduceIte, go_sem, t1', t3, t4, hcell]
                exact bad _ (fun h => h5 h.2.2.2.2.2.1) hxx
            · have h4 : ¬ st.puts.length ≤ 256 := by simp at h4; omega
              simp -dsimp only [↓reduceIte, go_sem, t1', t3, t4, hcell]
              exact bad _ (fun h => h4 h.2.2.2.2.1) hxx
          · have h3 : ¬ st.b.length ≤ 16384 := by simp at h3; omega
            simp -dsimp only [↓reduceIte, go_sem, t1', t3, t4, hcell]
            exact bad _ (fun h => h3 h.2.2.1) hxx
        · have h2 : ¬ st.p.length ≤ 16384 := by simp at h2; omega
          simp -dsimp only [↓reduceIte, go_sem, t1', t3, t4, hcell]
          exact bad _ (fun h => h2 h.2.1) hxx
      · have h1 : ¬ st.w.length ≤ 16384 := by simp at h1; omega
        simp -dsimp only [↓reduceIte, go_sem, t1', t3, t4, hcell]
        exact bad _ (fun h => h1 h.1) hxx
end Go.Aff.L25

/- Layer 25, walked: the reference's bytes; sameness. -/
namespace Go.Aff.L25
open Go.Proofs Go.Aff Go.Aff.L01 Classical
set_option linter.unusedVariables false
set_option linter.unusedSimpArgs false
attribute [local go_sem] Try.underlying3 Try.underlying4 Try.underlying5 Try.underlying9 Try.underlying22 Try.underlying23 Try.underlying25 Try.underlying26 Try.underlying29 Try.underlying44 Try.underlying45 Try.underlying47 Try.underlying53 Try.underlying67 fits3 fits9 fits53 p53_0 p53_1 fits22 fits23 fits29 fits25' p29_0 p29_1 p29_2 p29_3 p29_4 p25_0 p25_1 p25_2 p25_3 p25_4
attribute [local go_sem] push_app app_app length_app cellAt_app cellAt_app0 set_app set_app0 objs_app objs_app0 List.cons_append List.nil_append List.length_cons List.length_nil List.getElem?_cons_zero List.getElem?_cons_succ List.set_cons_zero List.set_cons_succ
attribute [-go_sem] cellAt_new

theorem Lay_c {st : St} {t1 t2 : Tk} {σ : AST} {K : AV → AST → Prop} (hR : st.Right) (hK : K (.str st.laid) σ) : TCalls Try.prog 13 [stateV t1 t2 st] σ K := by
  obtain ⟨hw, hp, hb, hpt, hpl, hri, hnl, hrn⟩ := id hR
  refine TCalls.drop ?_
  unfold stateV
  refine tcalls_walk Try.f13 _ [.tmp 2] Try.func13 rfl rfl rfl mixed (Nat.le_of_ble_eq_true rfl) rfl fun hlen => ?_
  simp -dsimp only [↓reduceIte, go_sem]
  refine build_lit E51 (by decide) rfl (by decide) ?_ ?_
  · intro v hv
    simp at hv; subst hv
    exact ⟨⟨by rw [agg5]; rfl, by rw [E51.hc]; rfl⟩, rfl⟩
  simp -dsimp only [↓reduceIte, go_sem]
  rw [conv_lit S51 rfl]
  simp -dsimp only [↓reduceIte, go_sem]
  have hrl : (st.puts.map (·.1)).length = st.puts.length := by simp
  have htl : (st.puts.map (·.2)).length = st.puts.length := by simp
  refine awp_rounds (fun (i : Nat) τ s => i ≤ st.puts.length ∧ Ext (σ.app [.cells (.agg [.str st.w, .str st.p, .str st.b, .slice t1 (st.puts.map pieceV), .slice t2 (st.prunes.map (AV.int .i64))])]) s ∧ τ 1 = .ptr (some (σ.objs.length, [])) ∧ τ 5 = .int .i64 i ∧ τ 3 = .str (L01.part numS (st.puts.map (·.1)) i) ∧
    ∃ tk, tkNew σ tk ∧ canApp s tk (L01.part textS (st.puts.map (·.2)) i).length 1 ∧ τ 4 = .slice tk (u8s (L01.part textS (st.puts.map (·.2)) i))) (fun i => st.puts.length - i) 0 ?_ ?_
  · refine ⟨by omega, Ext.refl _, ?_, ?_, ?_, .full, .inl rfl, trivial, ?_⟩ <;> simp only [go_sem] <;> first | rfl | (rw [part_zero]; rfl)
  · rintro i τ s ⟨hi, hx, t1', t5, t3, tk, htk, hcan, t4⟩
    have hcell := fun p => cell_ext0 hx (v := .agg [.str st.w, .str st.p, .str st.b, .slice t1 (st.puts.map pieceV), .slice t2 (st.prunes.map (AV.int .i64))]) rfl p
    have hxx : Ext σ s := (Ext.app _ _).trans hx
    have htk2 : tk = .full ∨ ∃ k, tk = .own k ∧ (σ.app [.cells (.agg [.str st.w, .str st.p, .str st.b, .slice t1 (st.puts.map pieceV), .slice t2 (st.prunes.map (AV.int .i64))])]).toks.length ≤ k := htk
    have l1 := part_len (f := numS) (l := st.puts.map (·.1)) (m := 22) (i := i) (fun x hx => numS_len (rises_range hri x hx).1 (rises_range hri x hx).2) (by rw [hrl]; exact hi)
    have l2 := part_len (f := textS) (l := st.puts.map (·.2)) (m := 16405) (i := i) (fun t ht => textS_len (by
      obtain ⟨x, hx, rfl⟩ := List.mem_map.1 ht
      have := hpt x hx; omega)) (by rw [htl]; exact hi)
    rw [hrl] at l1
    rw [htl] at l2
    simp -dsimp only [↓reduceIte, go_sem, t1', t3, t4, t5, hcell]
    refine arr_intro fun _ => ?_
    simp only [List.length_map]
    simp -dsimp only [↓reduceIte, go_sem, t1', t3, t4, t5, hcell]
    refine boolW_split (fun hbb => ?_) (fun hbb => ?_)
    · have hbb : i < st.puts.length := by simp at hbb; omega
      obtain ⟨x, hx1⟩ := get_lt hbb
      have hr1 : (st.puts.map (·.1))[i]? = some x.1 := by simp [hx1]
      have hr2 : (st.puts.map (·.2))[i]? = some x.2 := by simp [hx1]
      have hxr := rises_range hri x.1 (List.mem_iff_getElem?.2 ⟨i, hr1⟩)
      have hxt := hpt x (List.mem_iff_getElem?.2 ⟨i, hx1⟩)
      have n1 := numS_len hxr.1 hxr.2
      have n2 := textS_len (s := x.2) (by omega)
      simp -dsimp only [↓reduceIte, go_sem, t1', t3, t4, t5, hcell]
      refine nth_get hx1 ?_
      simp -dsimp only [↓reduceIte, go_sem, t1', t3, t4, t5, hcell, pieceV]
      refine Number_c hxr.1 hxr.2 ?_
      simp -dsimp only [↓reduceIte, go_sem, t1', t3, t4, t5, hcell]
      refine side_later (by simp only [maxL, List.length_append]; omega) ?_
      simp -dsimp only [↓reduceIte, go_sem, t1', t3, t4, t5, hcell]
      refine nth_get hx1 ?_
      simp -dsimp only [↓reduceIte, go_sem, t1', t3, t4, t5, hcell, pieceV]
      refine Text10_c (by omega) ?_
      simp -dsimp only [↓reduceIte, go_sem, t1', t3, t4, t5, hcell]
      refine append_text E51 Try.underlying9 hcan (by omega) (by simp only [maxL]; omega) ?_
      simp -dsimp only [↓reduceIte, go_sem, t1', t3, t4, t5, hcell]
      rw [wrap_i64 (by omega) (by omega)]
      refine later_intro ⟨i + 1, by omega, by omega, hx.grow htk2, ?_, ?_, ?_, growT s tk, htk.grow hxx, ?_, ?_⟩ <;> (try simp only [go_sem, t1', t3, t4, t5]) <;> try rfl
      · rw [part_succ hr1]
      · rw [part_succ hr2, List.length_append]; exact canApp_grow hcan
      · rw [part_succ hr2]
    · have hbb : i = st.puts.length := by simp at hbb; omega
      subst hbb
      have e1 : L01.part numS (st.puts.map (·.1)) st.puts.length ++ [41] = laidAll numS (st.puts.map (·.1)) := by rw [laidAll, hrl]
      have e2 : L01.part textS (st.puts.map (·.2)) st.puts.length ++ [41] = laidAll textS (st.puts.map (·.2)) := by rw [laidAll, htl]
      have e3 : [40] ++ st.prunes.flatMap numS ++ [41] = laidAll numS st.prunes := by simp [laidAll, L01.part]
      have l3 := flat_len (f := numS) (m := 22) (l := st.prunes) (fun x hx => numS_len (rises_range hrn x hx).1 (rises_range hrn x hx).2)
      have w1 := textS_len (s := st.w) (by omega)
      have w2 := textS_len (s := st.p) (by omega)
      have w3 := textS_len (s := st.b) (by omega)
      simp -dsimp only [↓reduceIte, go_sem, t1', t3, t4, t5, hcell]
      refine awp_drawS [0, 1, 3, 4, 7, 8, 11, 14, 15, 18, 19, 2, 5, 6, 9, 10, 12, 13, 16, 17, 20, 21, 22, 23] (by kernel_rfl) ?_
      simp -dsimp only [↓reduceIte, go_sem, t1', t3, t4, t5, hcell]
      refine Text10_c (by omega) ?_
      simp -dsimp only [↓reduceIte, go_sem, t1', t3, t4, t5, hcell]
      refine Text10_c (by omega) ?_
      simp -dsimp only [↓reduceIte, go_sem, t1', t3, t4, t5, hcell]
      refine side_later (by simp only [maxL, List.length_append]; omega) ?_
      simp -dsimp only [↓reduceIte, go_sem, t1', t3, t4, t5, hcell]
      refine Text10_c (by omega) ?_
      simp -dsimp only [↓reduceIte, go_sem, t1', t3, t4, t5, hcell]
      refine side_later (by simp only [maxL, List.length_append]; omega) ?_
      simp -dsimp only [↓reduceIte, go_sem, t1', t3, t4, t5, hcell]
      refine side_later (by simp only [maxL, List.length_append]; omega) ?_
      simp -dsimp only [↓reduceIte, go_sem, t1', t3, t4, t5, hcell]
      refine side_later (by simp only [maxL, List.length_append, List.length_cons, List.length_nil]; omega) ?_
      simp -dsimp only [↓reduceIte, go_sem, t1', t3, t4, t5, hcell]
      refine side_later (by simp only [maxL, List.length_append, List.length_cons, List.length_nil]; omega) ?_
      simp -dsimp only [↓reduceIte, go_sem, t1', t3, t4, t5, hcell]
      refine side_later (by simp only [maxL, List.length_append, List.length_cons, List.length_nil]; omega) ?_
      simp -dsimp only [↓reduceIte, go_sem, t1', t3, t4, t5, hcell]
      refine Ints10_c (rises_range hrn) (by omega) ?_
      simp -dsimp only [↓reduceIte, go_sem, t1', t3, t4, t5, hcell]
      refine side_later (by simp only [maxL, List.length_append, List.length_cons, List.length_nil]; omega) ?_
      simp -dsimp only [↓reduceIte, go_sem, t1', t3, t4, t5, hcell]
      refine side_later (by simp only [maxL, List.length_append, List.length_cons, List.length_nil]; omega) ?_
      simp -dsimp only [↓reduceIte, go_sem, t1', t3, t4, t5, hcell]
      refine ⟨hxx, rfl, ?_⟩
      have : st.laid = textS st.w ++ textS st.p ++ textS st.b ++ L01.part numS (st.puts.map (·.1)) st.puts.length ++ [41] ++ L01.part textS (st.puts.map (·.2)) st.puts.length ++ [41, 40] ++ st.prunes.flatMap numS ++ [41] := by
        rw [St.laid, ← e1, ← e2, ← e3]; simp
      rw [this] at hK
      exact hK

/-! ### Sameness -/
noncomputable instance : DecidableEq St := fun a b => propDecidable (a = b)
theorem st_eq {a b : St} : a = b ↔ a.w = b.w ∧ a.p = b.p ∧ a.b = b.b ∧ a.puts = b.puts ∧ a.prunes = b.prunes := by
  cases a; cases b; simp

theorem same_c {a b : St} {t1 t2 t3 t4 : Tk} {σ : AST} {K : AV → AST → Prop} (hK : K (.bool (decide (a = b))) σ) : TCalls Try.prog 18 [stateV t1 t2 a, stateV t3 t4 b] σ K := by
  refine TCalls.drop ?_
  unfold stateV
  refine tcalls_walk Try.f18 _ [.tmp 4] Try.func18 rfl rfl rfl mixed (Nat.le_of_ble_eq_true rfl) rfl fun hlen => ?_
  have no : a ≠ b → ∀ s, Ext σ s → Ext σ s ∧ (AV.bool false).noRef = true ∧ K (AV.bool false).strip σ := fun h s hx => by
    rw [decide_eq_false h] at hK; exact ⟨hx, rfl, hK⟩
  rw [decide_eq_decide.2 st_eq] at hK
  simp -dsimp only [↓reduceIte, go_sem]
  refine guardV_split (fun h1 => ?_) (fun h1 => ?_) <;> (try rw [h1])
  · have h1 : a.w = b.w := by simpa using h1
    simp -dsimp only [↓reduceIte, go_sem]
    refine guardV_split (fun h2 => ?_) (fun h2 => ?_) <;> (try rw [h2])
    · have h2 : a.p = b.p := by simpa using h2
      simp -dsimp only [↓reduceIte, go_sem]
      refine guardV_split (fun h3 => ?_) (fun h3 => ?_) <;> (try rw [h3])
      · have h3 : a.b = b.b := by simpa using h3
        simp -dsimp only [↓reduceIte, go_sem]
        refine equalPieces_c ?_
        by_cases h4 : a.puts = b.puts
        · rw [decide_eq_true h4]
          simp -dsimp only [↓reduceIte, go_sem]
          refine equalInts_c ?_
          simp -dsimp only [↓reduceIte, go_sem]
          refine ⟨Ext.app _ _, rfl, ?_⟩
          simp only [AV.strip]
          by_cases h5 : a.prunes = b.prunes
          · rw [decide_eq_true h5]; rw [decide_eq_true ⟨h1, h2, h3, h4, h5⟩] at hK; exact hK
          · rw [decide_eq_false h5]; rw [decide_eq_false (fun h => h5 h.2.2.2.2)] at hK; exact hK
        · rw [decide_eq_false h4]
          simp -dsimp only [↓reduceIte, go_sem]
          exact no (fun h => h4 (by rw [h])) _ (Ext.app _ _)
      · have h3 : a.b ≠ b.b := by simpa using h3
        simp -dsimp only [↓reduceIte, go_sem]
        exact no (fun h => h3 (by rw [h])) _ (Ext.app _ _)
    · have h2 : a.p ≠ b.p := by simpa using h2
      simp -dsimp only [↓reduceIte, go_sem]
      exact no (fun h => h2 (by rw [h])) _ (Ext.app _ _)
  · have h1 : a.w ≠ b.w := by simpa using h1
    simp -dsimp only [↓reduceIte, go_sem]
    exact no (fun h => h1 (by rw [h])) _ (Ext.app _ _)
end Go.Aff.L25

