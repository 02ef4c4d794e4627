import Derived.Test.YtcekccpehlnnbaaG18

/- Layer 25, walked: states that are read. -/
namespace Go.Aff.L25
open Go.Proofs Go.Aff Go.Aff.L01 Classical
set_option linter.unusedVariables false
set_option linter.unusedSimpArgs false
attribute [local go_sem] Try.underlying3 Try.underlying4 Try.underlying5 Try.underlying9 Try.underlying22 Try.underlying23 Try.underlying25 Try.underlying26 Try.underlying29 Try.underlying44 Try.underlying45 Try.underlying47 Try.underlying53 Try.underlying67 fits3 fits9 fits53 p53_0 p53_1 fits22 fits23 fits29 fits25' p29_0 p29_1 p29_2 p29_3 p29_4 p25_0 p25_1 p25_2 p25_3 p25_4
attribute [local go_sem] push_app app_app length_app cellAt_app cellAt_app0 set_app set_app0 objs_app objs_app0 List.cons_append List.nil_append List.length_cons List.length_nil List.getElem?_cons_zero List.getElem?_cons_succ List.set_cons_zero List.set_cons_succ
attribute [-go_sem] cellAt_new
theorem fits26 {v : AV} : fits Try.prog 26 v = (v.isAgg = false ∧ v.size = 1) := fits_leaf (by kernel_rfl) (by kernel_rfl)
attribute [local go_sem] fits26
theorem zero29 : zeroA Try.prog 12 29 = .agg [.str [], .str [], .str [], .slice .full [], .slice .full []] := by kernel_rfl
theorem zeroOf29 : ZeroOf Try.prog 29 (.agg [.str [], .str [], .str [], .slice .full [], .slice .full []]) := ⟨_, _, rfl, rfl, rfl, rfl, rfl⟩
theorem zero3 : zeroA Try.prog 12 3 = .int .i64 0 := by kernel_rfl
theorem zeroOf3 : ZeroOf Try.prog 3 (.int .i64 0) := ⟨_, _, rfl, rfl, rfl, rfl, rfl⟩
theorem zero26 : zeroA Try.prog 12 26 = .int .i64 0 := by kernel_rfl
theorem zeroOf26 : ZeroOf Try.prog 26 (.int .i64 0) := ⟨_, _, rfl, rfl, rfl, rfl, rfl⟩

theorem textK_c {s : List UInt8} {a e : Int} {R S : AObj} {σ : AST} {K : AV → AST → Prop} (h0 : 0 ≤ a ∧ a ≤ s.length) (hs : s.length ≤ 9223372036854775807)
    (hK : K (.str (rd [] (textR s) a e).1) (σ.app [.cells (.str s), R, S, .cells (.int .i64 (rd [] (textR s) a e).2.1), .cells (.int .i64 (rd [] (textR s) a e).2.2)])) :
    TCalls Try.prog 28 [.ptr (some (σ.objs.length + 4, [])), .ptr (some (σ.objs.length, [])), .ptr (some (σ.objs.length + 3, []))] (σ.app [.cells (.str s), R, S, .cells (.int .i64 a), .cells (.int .i64 e)]) K := by
  refine tcalls_walk Try.f28 _ [.tmp 3] Try.func28 rfl rfl rfl mixed (Nat.le_of_ble_eq_true rfl) rfl fun hlen => ?_
  simp -dsimp only [↓reduceIte, go_sem]
  refine boolW_split (fun he => ?_) (fun he => ?_)
  · have he : e ≠ 0 := by simpa using he
    rw [rd_bad he] at hK
    simp -dsimp only [↓reduceIte, go_sem]
    exact hK
  · have he : e = 0 := by simpa using he
    subst he
    rw [rd_ok] at hK
    simp -dsimp only [↓reduceIte, go_sem]
    refine readText_c (by omega) (by omega) ?_
    unfold tupT
    simp -dsimp only [↓reduceIte, go_sem]
    exact hK

theorem numbersK_c {s : List UInt8} {a e : Int} {R S : AObj} {σ : AST} {K : AV → AST → Prop} (h0 : 0 ≤ a ∧ a ≤ s.length) (hs : s.length ≤ 9223372036854775807)
    (hK : K (slS (AV.int .i64) (rd [] (readR (numP s) s) a e).1) (σ.app [.cells (.str s), R, S, .cells (.int .i64 (rd [] (readR (numP s) s) a e).2.1), .cells (.int .i64 (rd [] (readR (numP s) s) a e).2.2)])) :
    TCalls Try.prog 30 [.ptr (some (σ.objs.length + 4, [])), .ptr (some (σ.objs.length, [])), .ptr (some (σ.objs.length + 3, []))] (σ.app [.cells (.str s), R, S, .cells (.int .i64 a), .cells (.int .i64 e)]) K := by
  refine tcalls_walk Try.f30 _ [.tmp 3] Try.func30 rfl rfl rfl mixed (Nat.le_of_ble_eq_true rfl) rfl fun hlen => ?_
  simp -dsimp only [↓reduceIte, go_sem]
  refine boolW_split (fun he => ?_) (fun he => ?_)
  · have he : e ≠ 0 := by simpa using he
    rw [rd_bad he] at hK
    simp -dsimp only [↓reduceIte, go_sem]
    exact hK
  · have he : e = 0 := by simpa using he
    subst he
    rw [rd_ok] at hK
    simp -dsimp only [↓reduceIte, go_sem]
    refine readNumbers_c (by omega) (by omega) ?_
    have : tupL (AV.int .i64) (readR (numP s) s a) = .tuple [slS (AV.int .i64) (readR (numP s) s a).1, .int .i64 (readR (numP s) s a).2.1, .int .i64 (readR (numP s) s a).2.2] := rfl
    rw [this]
    simp -dsimp only [↓reduceIte, go_sem]
    exact hK

/-- A state, whoever owns its slices. -/
def stS (s : St) : AV := .agg [.str s.w, .str s.p, .str s.b, slS pieceV s.puts, slS (AV.int .i64) s.prunes]
theorem slS_isAgg {α : Type} {f : α → AV} {l : List α} : (slS f l).isAgg = false := by unfold slS; split <;> rfl
theorem slS_size {α : Type} {f : α → AV} {l : List α} : (slS f l).size = 1 := by unfold slS; split <;> simp [AV.size]
theorem slS_known {α : Type} {f : α → AV} {l : List α} : (slS f l).known = true := by unfold slS; split <;> rfl
theorem slS_shape {α : Type} {f : α → AV} {l : List α} : (slS f l).shape = .leaf := by unfold slS; split <;> simp [AV.shape]
theorem stS_strip (s : St) : (stS s).strip = stS s := by
  simp only [stS, AV.strip, AV.strips]
  rw [strip_slS pieceV_strip, strip_slS strip_int]
theorem stS_noRef (s : St) : (stS s).noRef = true := by
  simp only [stS, AV.noRef, AV.noRefs, noRef_slS pieceV_noRef, noRef_slS (f := AV.int .i64) (fun _ => rfl), Bool.and_self]

theorem built29 : Built Try.prog 29 := by unfold Built; rw [Try.underlying29]; decide +kernel
theorem built53 : Built Try.prog 53 := by unfold Built; rw [Try.underlying53]; decide +kernel
theorem keeps_nil' {σ σ' : AST} : keeps [] σ σ' = True := by simp only [eq_iff_iff, iff_true]; exact keeps_nil
attribute [local go_sem] keeps_nil' slS_isAgg slS_size slS_known slS_shape
theorem get_c {s : List UInt8} {σ : AST} {K : AV → AST → Prop} (hK : K (.tuple [stS (getS s).1, .int .i64 (getS s).2]) σ) : TCalls Try.prog 14 [.str s] σ K := by
  refine TCalls.drop ?_
  refine tcalls_walk Try.f14 _ [.cell 2 29, .tmp 3] Try.func14 rfl rfl rfl mixed (Nat.le_of_ble_eq_true rfl) rfl fun hlen => ?_
  have hs : s.length ≤ 9223372036854775807 := hlen (.str s) (by simp)
  have zero : ∀ e s', Ext σ s' → getS s = (.zero, e) → Ext σ s' ∧ (AV.tuple [.agg [.str [], .str [], .str [], .slice .full [], .slice .full []], .int .i64 e]).noRef = true ∧ K (AV.tuple [.agg [.str [], .str [], .str [], .slice .full [], .slice .full []], .int .i64 e]).strip σ := fun e s' hx h => by
    rw [h] at hK; exact ⟨hx, rfl, hK⟩
  simp -dsimp only [↓reduceIte, go_sem]
  rw [zero29]
  refine ⟨zeroOf29, later_intro ?_⟩
  simp -dsimp only [↓reduceIte, go_sem]
  rw [zero29]
  refine ⟨zeroOf29, later_intro ?_⟩
  simp -dsimp only [↓reduceIte, go_sem]
  rw [zero3]
  refine ⟨zeroOf3, later_intro ?_⟩
  simp -dsimp only [↓reduceIte, go_sem]
  rw [zero26]
  refine ⟨zeroOf26, later_intro ?_⟩
  simp -dsimp only [↓reduceIte, go_sem]
  refine ⟨by intro x hx; simp only [List.mem_cons, List.mem_append, List.not_mem_nil, or_false, false_or] at hx; rcases hx with rfl | rfl | rfl <;> simp only [go_sem], later_intro ?_⟩
  simp -dsimp only [↓reduceIte, go_sem]
  refine ⟨by intro x hx; simp only [List.mem_cons, List.mem_append, List.not_mem_nil, or_false, false_or] at hx; rcases hx with rfl | rfl | rfl <;> simp only [go_sem], later_intro ?_⟩
  simp -dsimp only [↓reduceIte, go_sem]
  refine textK_c (by omega) hs ?_
  obtain ⟨x1, hx1⟩ : ∃ x, x = rd [] (textR s) 0 0 := ⟨_, rfl⟩
  have r1 : 0 ≤ x1.2.1 ∧ x1.2.1 ≤ s.length := by rw [hx1]; exact rd_range (by omega) textR_range
  rw [← hx1]
  simp -dsimp only [↓reduceIte, go_sem]
  refine textK_c r1 hs ?_
  obtain ⟨x2, hx2⟩ : ∃ x, x = rd [] (textR s) x1.2.1 x1.2.2 := ⟨_, rfl⟩
  have r2 : 0 ≤ x2.2.1 ∧ x2.2.1 ≤ s.length := by rw [hx2]; exact rd_range r1 textR_range
  rw [← hx2]
  simp -dsimp only [↓reduceIte, go_sem]
  refine textK_c r2 hs ?_
  obtain ⟨x3, hx3⟩ : ∃ x, x = rd [] (textR s) x2.2.1 x2.2.2 := ⟨_, rfl⟩
  have r3 : 0 ≤ x3.2.1 ∧ x3.2.1 ≤ s.length := by rw [hx3]; exact rd_range r2 textR_range
  rw [← hx3]
  simp -dsimp only [↓reduceIte, go_sem]
  refine numbersK_c r3 hs ?_
  obtain ⟨x4, hx4⟩ : ∃ x, x = rd [] (readR (numP s) s) x3.2.1 x3.2.2 := ⟨_, rfl⟩
  have r4 : 0 ≤ x4.2.1 ∧ x4.2.1 ≤ s.length := by rw [hx4]; exact rd_range r3 ⟨(readR_range num_one).1, (readR_range num_one).2.1⟩
  rw [← hx4]
  simp -dsimp only [↓reduceIte, go_sem]
  have kz : ∀ (A B C D E B' : AObj), keeps [σ.objs.length + 4] (σ.app [A, B, C, D, E]) (σ.app [A, B', C, D, E]) := fun A B C D E B' k hk => by
    obtain rfl := List.mem_singleton.1 hk
    rw [objs_app, objs_app]; rfl
  refine boolW_split (fun h4 => ?_) (fun h4 => ?_)
  · have h4 : x4.2.2 = 0 := by simpa using h4
    obtain ⟨x5, hx5⟩ : ∃ x, x = rd [] (readR (textP s) s) x4.2.1 x4.2.2 := ⟨_, rfl⟩
    have r5 : 0 ≤ x5.2.1 ∧ x5.2.1 ≤ s.length := by rw [hx5]; exact rd_range r4 ⟨(readR_range text_one).1, (readR_range text_one).2.1⟩
    simp -dsimp only [↓reduceIte, go_sem]
    refine readTexts_c (by omega) (by omega) ?_
    have e5 : tupL AV.str (readR (textP s) s x4.2.1) = .tuple [slS AV.str x5.1, .int .i64 x5.2.1, .int .i64 x5.2.2] := by rw [hx5, h4, rd_ok]; rfl
    rw [e5]
    simp -dsimp only [↓reduceIte, go_sem]
    refine numbersK_c r5 hs ?_
    obtain ⟨x6, hx6⟩ : ∃ x, x = rd [] (readR (numP s) s) x5.2.1 x5.2.2 := ⟨_, rfl⟩
    have r6 : 0 ≤ x6.2.1 ∧ x6.2.1 ≤ s.length := by rw [hx6]; exact rd_range r5 ⟨(readR_range num_one).1, (readR_range num_one).2.1⟩
    have run := getS_run (s := s) hx1 hx2 hx3 hx4 hx5 hx6
    rw [← hx6]
    simp -dsimp only [↓reduceIte, go_sem]
    refine boolW_split (fun h6 => ?_) (fun h6 => ?_)
    · have h6 : x6.2.2 ≠ 0 := by simpa using h6
      rw [getR, if_pos h6] at run
      simp -dsimp only [↓reduceIte, go_sem]
      refine awp_drawF [(0, 2), (1, 0), (2, 1), (3, 2)] (by kernel_rfl) ?_
      simp -dsimp only [↓reduceIte, go_sem, zero29]
      refine ⟨zeroOf29, built29, ?_⟩
      rw [fill_nil]
      simp -dsimp only [↓reduceIte, go_sem]
      refine ⟨kz _ _ _ _ _ _, ?_⟩
      simp -dsimp only [↓reduceIte, go_sem]
      exact zero _ _ (Ext.app _ _) run
    · have h6 : x6.2.2 = 0 := by simpa using h6
      rw [getR, if_neg (not_not_intro h6)] at run
      have z5 : x5.2.2 = 0 := by
        apply Classical.byContradiction; intro hc
        rw [rd_bad hc] at hx6; rw [hx6] at h6; exact hc h6
      have l4 : x4.1.length ≤ 512 := by
        have z3 : x3.2.2 = 0 := by
          apply Classical.byContradiction; intro hc
          rw [rd_bad hc] at hx4; rw [hx4] at h4; exact hc h4
        rw [z3, rd_ok] at hx4
        rw [hx4]; rw [hx4] at h4; exact (readR_range num_one).2.2.1 h4
      have l5 : x5.1.length ≤ 512 := by
        rw [h4, rd_ok] at hx5
        rw [hx5]; rw [hx5] at z5; exact (readR_range text_one).2.2.1 z5
      obtain ⟨ta, hta⟩ := slS_tk (f := AV.int .i64) (l := x4.1)
      obtain ⟨tb, htb⟩ := slS_tk (f := AV.str) (l := x5.1)
      rw [hta, htb]
      simp -dsimp only [↓reduceIte, go_sem]
      refine arr_intro fun _ => ?_
      simp only [List.length_map]
      simp -dsimp only [↓reduceIte, go_sem]
      refine arr_intro fun _ => ?_
      simp only [List.length_map]
      simp -dsimp only [↓reduceIte, go_sem]
      refine guardV_split (fun h7 => ?_) (fun h7 => ?_) <;> (try rw [h7])
      · have h7 : x4.1.length = x5.1.length := by simp at h7; omega
        simp -dsimp only [↓reduceIte, go_sem]
        refine arr_intro fun _ => ?_
        simp -dsimp only [↓reduceIte, go_sem]
        refine boolW_split (fun h8 => ?_) (fun h8 => ?_)
        · have h8 : x6.2.1 < s.length := by simpa using h8
          rw [if_pos (.inr (by omega))] at run
          simp -dsimp only [↓reduceIte, go_sem, zero29]
          refine ⟨zeroOf29, built29, ?_⟩
          rw [fill_nil]
          simp -dsimp only [↓reduceIte, go_sem]
          exact zero _ _ (Ext.app _ _) run
        · have h8 : x6.2.1 = s.length := by simp at h8; omega
          rw [if_neg (by rintro (h | h); exact h h7; exact h h8)] at run
          simp -dsimp only [↓reduceIte, go_sem]
          refine arr_intro fun _ => ?_
          simp only [List.length_map]
          simp -dsimp only [↓reduceIte, go_sem]
          have zlen : (x4.1.zip x5.1).length = x4.1.length := by rw [List.length_zip]; omega
          refine awp_rounds (fun (i : Nat) τ s' => ∃ (σ2 : AST) (tk : Tk), i ≤ x4.1.length ∧ Ext σ σ2 ∧ σ2.objs.length = σ.objs.length ∧
            s' = σ2.app [.cells (.str s), .cells (.agg [.str [], .str [], .str [], .slice .full [], .slice .full []]), .cells (.agg [.str x1.1, .str x2.1, .str x3.1, .slice tk (((x4.1.zip x5.1).take i).map pieceV), slS (AV.int .i64) x6.1]), .cells (.int .i64 x6.2.1), .cells (.int .i64 x6.2.2)] ∧
            tkNew σ tk ∧ canApp σ2 tk i 2 ∧ (i = 0 → tk = .full) ∧ (0 < i → ∃ k, tk = .own k) ∧ τ 2 = .ptr (some (σ2.objs.length + 1, [])) ∧ τ 4 = .ptr (some (σ2.objs.length + 2, [])) ∧ τ 9 = .slice ta (x4.1.map (AV.int .i64)) ∧ τ 10 = .slice tb (x5.1.map AV.str) ∧ τ 56 = .int .i64 x4.1.length ∧ τ 57 = .int .i64 i) (fun i => x4.1.length - i) 0 ?_ ?_
          · refine ⟨σ, .full, by omega, Ext.refl _, rfl, ?_, .inl rfl, trivial, fun _ => rfl, fun h => by omega, ?_, ?_, ?_, ?_, ?_, ?_⟩ <;> (try simp only [go_sem]) <;> rfl
          · rintro i τ s' ⟨σ2, tk, hi, hx, hn2, rfl, htk, hcan, hz, hp, t2, t4, t9, t10, t56, t57⟩
            simp -dsimp only [↓reduceIte, go_sem, t2, t4, t9, t10, t56, t57]
            refine boolW_split (fun h9 => ?_) (fun h9 => ?_)
            · have h9 : i < x4.1.length := by simp at h9; omega
              obtain ⟨n, hn⟩ := get_lt h9
              obtain ⟨t, ht⟩ := get_lt (l := x5.1) (i := i) (by omega)
              have hz1 : (x4.1.zip x5.1)[i]? = some (n, t) := by rw [List.getElem?_zip_eq_some]; exact ⟨hn, ht⟩
              have htake : (x4.1.zip x5.1).take (i + 1) = (x4.1.zip x5.1).take i ++ [(n, t)] := by rw [List.take_add_one, hz1]; rfl
              have hlt : (((x4.1.zip x5.1).take i).map pieceV).length = i := by simp; omega
              simp -dsimp only [↓reduceIte, go_sem, t2, t4, t9, t10, t56, t57]
              refine awp_drawF [(0, 2), (1, 2), (2, 2), (3, 2), (4, 2), (5, 2), (6, 2), (7, 2), (8, 2), (9, 2), (10, 2), (11, 2), (12, 1), (13, 2), (14, 1)] (by kernel_rfl) ?_
              simp -dsimp only [↓reduceIte, go_sem, t2, t4, t9, t10, t56, t57]
              refine nth_get hn ?_
              simp -dsimp only [↓reduceIte, go_sem, t2, t4, t9, t10, t56, t57]
              refine nth_get ht ?_
              simp -dsimp only [↓reduceIte, go_sem, t2, t4, t9, t10, t56, t57, zero53]
              refine ⟨zeroOf53, built53, ?_⟩
              refine fill_cons rfl (by rw [p53_0, fits3]; exact ⟨rfl, rfl, by simp [AV.size]⟩) rfl rfl (fill_cons rfl (by rw [p53_1, fits9]; exact ⟨by simp [AV.sizes, AV.size], rfl, by simp [AV.size]⟩) rfl rfl ?_)
              rw [fill_nil]
              simp -dsimp only [↓reduceIte, go_sem, t2, t4, t9, t10, t56, t57]
              refine build_slice E22 rfl (by decide) ?_ ?_
              · intro v hv
                simp at hv; subst hv
                exact ⟨by simp only [go_sem], rfl⟩
              simp -dsimp only [↓reduceIte, go_sem, t2, t4, t9, t10, t56, t57]
              refine append_slice E22 (by rfl) (by rw [hlt, canApp_app]; exact hcan) (by intro v hv; simp at hv; subst hv; simp only [go_sem]) size_piece (by rw [hlt]; simp; omega) (by rw [hlt]; simp [maxL]; omega) ?_
              rw [hlt, growT_app, growS_app]
              obtain ⟨σ3, h3⟩ : ∃ σ3, σ3 = growS σ2 tk (i + [AV.agg [AV.int .i64 n, AV.str t]].length) 2 := ⟨_, rfl⟩
              have hS2 : σ3.objs.length = σ2.objs.length := by rw [h3]; exact length_growS
              rw [← h3]
              refine later_intro (later_intro ?_)
              have t2' := t2
              have t4' := t4
              rw [← hS2] at t2' t4'
              simp -dsimp only [↓reduceIte, go_sem, t2', t4', t9, t10, t56, t57]
              rw [wrap_i64 (by omega) (by omega)]
              have e3 : ((x4.1.zip x5.1).take (i + 1)).map pieceV = ((x4.1.zip x5.1).take i).map pieceV ++ [AV.agg [.int .i64 n, .str t]] := by rw [htake, List.map_append]; rfl
              refine ⟨i + 1, by omega, σ3, growT σ2 tk, by omega, ?_, by omega, by rw [e3], htk.grow hx, ?_, fun h => by omega, fun _ => ?_, rfl, rfl, rfl⟩
              · rw [h3]; exact hx.grow htk
              · rw [h3]; exact canApp_grow hcan
              · rcases htk with h | ⟨k, h, _⟩
                · subst h; exact ⟨_, rfl⟩
                · subst h; exact ⟨_, rfl⟩
            · have h9 : i = x4.1.length := by simp at h9; omega
              have hall : (x4.1.zip x5.1).take i = x4.1.zip x5.1 := List.take_of_length_le (by omega)
              rw [hall]
              obtain ⟨tc, htc⟩ := slS_tk (f := AV.int .i64) (l := x6.1)
              rw [htc]
              simp -dsimp only [↓reduceIte, go_sem, t2, t4, t9, t10, t56, t57]
              have hfold : (AV.agg [.str x1.1, .str x2.1, .str x3.1, .slice tk ((x4.1.zip x5.1).map pieceV), .slice tc (x6.1.map (AV.int .i64))]) = stateV tk tc ⟨x1.1, x2.1, x3.1, x4.1.zip x5.1, x6.1⟩ := rfl
              rw [hfold]
              refine right_c (by simp; omega) ?_
              simp -dsimp only [↓reduceIte, go_sem, t2, t4, t9, t10, t56, t57]
              by_cases hR : (⟨x1.1, x2.1, x3.1, x4.1.zip x5.1, x6.1⟩ : St).Right
              · rw [if_pos hR] at run
                rw [decide_eq_true hR]
                unfold stateV
                simp -dsimp only [↓reduceIte, go_sem, t2, t4, t9, t10, t56, t57]
                refine later_intro ?_
                rw [run] at hK
                have hx' : ∀ l, Ext σ (σ2.app l) := fun l => hx.trans (Ext.app _ _)
                have hF : tkF (x4.1.zip x5.1) tk := by
                  by_cases h0 : i = 0
                  · exact .inl ⟨List.length_eq_zero_iff.1 (by omega), hz h0⟩
                  · refine .inr ⟨fun h => ?_, hp (by omega)⟩
                    rw [h] at zlen; simp at zlen; omega
                refine ⟨hx' _, ?_, ?_⟩
                · simp only [AV.noRef, AV.noRefs, Bool.and_true, Bool.true_and, noRefs_leaf pieceV_noRef, noRefs_leaf (f := AV.int .i64) (fun _ => rfl)]
                · rw [← htc]
                  simp only [AV.strip, AV.strips]
                  rw [strip_slS strip_int, strip_tkF pieceV_strip hF]
                  exact hK
              · rw [if_neg hR] at run
                rw [decide_eq_false hR]
                simp -dsimp only [↓reduceIte, go_sem, t2, t4, t9, t10, t56, t57]
                rw [zero29]
                refine ⟨zeroOf29, rfl, built29, ?_⟩
                rw [fill_nil]
                simp -dsimp only [↓reduceIte, go_sem, t2, t4, t9, t10, t56, t57]
                refine later_intro ?_
                exact zero _ _ (hx.trans (Ext.app _ _)) run
      · have h7 : x4.1.length ≠ x5.1.length := by simp at h7; omega
        rw [if_pos (.inl h7)] at run
        simp -dsimp only [↓reduceIte, go_sem, zero29]
        refine ⟨zeroOf29, built29, ?_⟩
        rw [fill_nil]
        simp -dsimp only [↓reduceIte, go_sem]
        exact zero _ _ (Ext.app _ _) run
  · have h4 : x4.2.2 ≠ 0 := by simpa using h4
    obtain ⟨x5, hx5⟩ : ∃ x, x = rd [] (readR (textP s) s) x4.2.1 x4.2.2 := ⟨_, rfl⟩
    obtain ⟨x6, hx6⟩ : ∃ x, x = rd [] (readR (numP s) s) x5.2.1 x5.2.2 := ⟨_, rfl⟩
    have run := getS_run (s := s) hx1 hx2 hx3 hx4 hx5 hx6
    have e5 : x5 = ([], x4.2.1, x4.2.2) := by rw [hx5, rd_bad h4]
    subst e5
    have e6 : x6 = ([], x4.2.1, x4.2.2) := by rw [hx6]; exact rd_bad h4
    simp -dsimp only [↓reduceIte, go_sem]
    refine numbersK_c r4 hs ?_
    rw [rd_bad h4]
    rw [e6, getR, if_pos h4] at run
    simp -dsimp only [↓reduceIte, go_sem]
    refine boolW_split (fun h6 => ?_) (fun h6 => ?_)
    · simp -dsimp only [↓reduceIte, go_sem]
      refine awp_drawF [(0, 2), (1, 0), (2, 1), (3, 2)] (by kernel_rfl) ?_
      simp -dsimp only [↓reduceIte, go_sem, zero29]
      refine ⟨zeroOf29, built29, ?_⟩
      rw [fill_nil]
      simp -dsimp only [↓reduceIte, go_sem]
      refine ⟨kz _ _ _ _ _ _, ?_⟩
      simp -dsimp only [↓reduceIte, go_sem]
      exact zero _ _ (Ext.app _ _) run
    · simp at h6; exact absurd h6 h4
end Go.Aff.L25

