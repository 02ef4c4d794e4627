/- Layer 1, walked: the reference's lists that are laid; LayLays. -/
import Derived.Test.YtfomojflekepoaaW01g
import Derived.Test.YtfomojflekepoaaW01f
namespace Go.Aff.L01
open Go.Proofs Go.Aff
set_option linter.unusedVariables false
set_option linter.unusedSimpArgs false
attribute [local go_sem] Try.underlying3 Try.underlying4 Try.underlying5 Try.underlying9 Try.underlying51 Try.underlying53 Try.underlying27 Try.underlying25 Try.underlying26 fits3 fits9

theorem Numbers_c {l : List Int} (hl : ∀ n ∈ l, -9223372036854775808 ≤ n ∧ n ≤ 9223372036854775807) {tk0 : Tk} {σ : AST} {K : AV → AST → Prop}
    (hK : K (if 512 < l.length then .tuple [.str [], .int .i64 4] else .tuple [.str (laidAll numS l), .int .i64 0]) σ) : TCalls Try.prog 15 [.slice tk0 (l.map (AV.int .i64))] σ K := by
  refine tcalls_walk Try.f15 _ [.tmp 2, .tmp 3] Try.func15 rfl rfl rfl mixed (Nat.le_of_ble_eq_true rfl) rfl fun hlen => ?_
  have hs : l.length ≤ 9223372036854775807 := by
    have := hlen (.slice tk0 (l.map (AV.int .i64))) (by simp)
    simp only [lenOk, List.length_map, maxL] at this; exact this
  simp -dsimp only [↓reduceIte, go_sem]
  refine arr_intro fun _ => ?_
  simp only [List.length_map]
  simp -dsimp only [↓reduceIte, go_sem]
  refine boolW_split (fun hb => ?_) (fun hb => ?_)
  · have hb : 512 < l.length := by simp at hb; omega
    rw [if_pos hb] at hK
    simp -dsimp only [↓reduceIte, go_sem]
    exact hK
  · have hb : ¬ 512 < l.length := by simp at hb; omega
    rw [if_neg hb] at hK
    simp -dsimp only [↓reduceIte, go_sem]
    refine awp_rounds (fun (i : Nat) τ s => i ≤ l.length ∧ s = σ ∧ τ 0 = .slice tk0 (l.map (AV.int .i64)) ∧ τ 5 = .int .i64 i ∧ τ 4 = .str (part numS l i)) (fun i => l.length - i) 0 ?_ ?_
    · refine ⟨by omega, rfl, ?_, ?_, ?_⟩ <;> simp only [go_sem] <;> first | rfl | (rw [part_zero]; rfl)
    · rintro i τ s ⟨hi, rfl, t0, t5, t4⟩
      have hcat := part_len (f := numS) (l := l) (m := 22) (i := i) (fun x hx => numS_len (hl x hx).1 (hl x hx).2) hi
      simp -dsimp only [↓reduceIte, go_sem, t0, t4, t5]
      refine arr_intro fun _ => ?_
      simp only [List.length_map]
      simp -dsimp only [↓reduceIte, go_sem, t0, t4, t5]
      refine boolW_split (fun h1 => ?_) (fun h1 => ?_)
      · have h1 : i < l.length := by simp at h1; omega
        obtain ⟨n, hn⟩ := get_lt h1
        have hr := hl n (List.mem_iff_getElem?.2 ⟨i, hn⟩)
        have hnl := numS_len hr.1 hr.2
        simp -dsimp only [↓reduceIte, go_sem, t0, t4, t5]
        refine nth_get hn ?_
        simp -dsimp only [↓reduceIte, go_sem, t0, t4, t5]
        refine Number_c hr.1 hr.2 ?_
        simp -dsimp only [↓reduceIte, go_sem, t0, t4, t5]
        refine side_later (by simp [maxL]; omega) ?_
        simp -dsimp only [↓reduceIte, go_sem, t0, t4, t5]
        rw [wrap_i64 (by omega) (by omega)]
        refine later_intro ⟨i + 1, by omega, by omega, rfl, ?_, ?_, ?_⟩ <;> simp only [go_sem, t0, t4, t5]
        · rfl
        · rw [part_succ hn]
      · have h1 : i = l.length := by simp at h1; omega
        subst h1
        simp -dsimp only [↓reduceIte, go_sem, t0, t4, t5]
        refine side_later (by simp [maxL]; omega) ?_
        simp -dsimp only [↓reduceIte, go_sem, t0, t4, t5]
        exact hK

theorem Texts_c {l : List (List UInt8)} {tk0 : Tk} {σ : AST} {K : AV → AST → Prop} (hK : K (textsR l) σ) : TCalls Try.prog 17 [.slice tk0 (l.map AV.str)] σ K := by
  refine TCalls.drop ?_
  refine tcalls_walk Try.f17 _ [.tmp 2, .tmp 3] Try.func17 rfl rfl rfl mixed (Nat.le_of_ble_eq_true rfl) rfl fun hlen => ?_
  have hs : l.length ≤ 9223372036854775807 := by
    have := hlen (.slice tk0 (l.map AV.str)) (by simp)
    simp only [lenOk, List.length_map, maxL] at this; exact this
  have bad : (512 < l.length ∨ ∃ s ∈ l, 16384 < s.length) → K (.tuple [.str [], .int .i64 4]) σ := fun h => by
    rw [textsR, if_pos h] at hK; exact hK
  simp -dsimp only [↓reduceIte, go_sem]
  refine arr_intro fun _ => ?_
  simp only [List.length_map]
  simp -dsimp only [↓reduceIte, go_sem]
  refine boolW_split (fun hb => ?_) (fun hb => ?_)
  · have hb : 512 < l.length := by simp at hb; omega
    simp -dsimp only [↓reduceIte, go_sem]
    exact ⟨Ext.refl _, rfl, bad (.inl hb)⟩
  · have hb : ¬ 512 < l.length := by simp at hb; omega
    simp -dsimp only [↓reduceIte, go_sem]
    refine build_lit E51 (by decide) rfl (by decide) ?_ ?_
    · intro v hv
      simp at hv; subst hv
      exact ⟨⟨by rw [agg5]; rfl, by rw [E51.hc]; rfl⟩, rfl⟩
    simp -dsimp only [↓reduceIte, go_sem]
    rw [conv_lit S51 rfl]
    simp -dsimp only [↓reduceIte, go_sem]
    refine awp_rounds (fun (i : Nat) τ s => i ≤ l.length ∧ Ext σ s ∧ τ 0 = .slice tk0 (l.map AV.str) ∧ τ 5 = .int .i64 i ∧ (∀ x ∈ l.take i, ¬ 16384 < x.length) ∧
      ∃ tk, tkNew σ tk ∧ canApp s tk (part textS l i).length 1 ∧ τ 4 = .slice tk (u8s (part textS l i))) (fun i => l.length - i) 0 ?_ ?_
    · refine ⟨by omega, Ext.refl _, ?_, ?_, by simp, .full, .inl rfl, trivial, ?_⟩ <;> simp only [go_sem] <;> first | rfl | (rw [part_zero]; rfl)
    · rintro i τ s ⟨hi, hx, t0, t5, hsm, tk, htk, hcan, t4⟩
      have hcat := part_len' (f := textS) (l := l) (m := 16405) (i := i) (fun x hx => textS_len (hsm x hx)) hi
      simp -dsimp only [↓reduceIte, go_sem, t0, t4, t5]
      refine arr_intro fun _ => ?_
      simp only [List.length_map]
      simp -dsimp only [↓reduceIte, go_sem, t0, t4, t5]
      refine boolW_split (fun h1 => ?_) (fun h1 => ?_)
      · have h1 : i < l.length := by simp at h1; omega
        obtain ⟨x, hn⟩ := get_lt h1
        simp -dsimp only [↓reduceIte, go_sem, t0, t4, t5]
        refine nth_get hn ?_
        simp -dsimp only [↓reduceIte, go_sem, t0, t4, t5]
        refine Text_c ?_
        split
        · rename_i hbig
          simp -dsimp only [↓reduceIte, go_sem, t0, t4, t5]
          exact ⟨hx, rfl, bad (.inr ⟨x, List.mem_iff_getElem?.2 ⟨i, hn⟩, hbig⟩)⟩
        · rename_i hbig
          simp -dsimp only [↓reduceIte, go_sem, t0, t4, t5]
          have hnl := textS_len hbig
          refine append_text E51 Try.underlying9 hcan (by omega) (by simp only [maxL]; omega) ?_
          simp -dsimp only [↓reduceIte, go_sem, t0, t4, t5]
          rw [wrap_i64 (by omega) (by omega)]
          refine later_intro ⟨i + 1, by omega, ?_⟩
          rw [part_succ hn, List.length_append]
          refine ⟨by omega, hx.grow htk, ?_, ?_, ?_, growT s tk, htk.grow hx, canApp_grow hcan, ?_⟩ <;> try (simp only [go_sem, t0, t4, t5] <;> rfl)
          intro y hy
          rw [List.take_add_one, hn] at hy
          rcases List.mem_append.1 hy with hy | hy
          · exact hsm y hy
          · simp at hy; subst hy; exact hbig
      · have h1 : i = l.length := by simp at h1; omega
        subst h1
        rw [List.take_length] at hsm
        rw [textsR, if_neg (by rintro (h | ⟨x, hx, h⟩); exact hb h; exact hsm x hx h)] at hK
        simp -dsimp only [↓reduceIte, go_sem, t0, t4, t5]
        refine side_later (by simp [maxL]; omega) ?_
        simp -dsimp only [↓reduceIte, go_sem, t0, t4, t5]
        exact ⟨hx, rfl, hK⟩

theorem layLays_c {s : List UInt8} {n : List Int} {l : List (List UInt8)} (hn : ∀ x ∈ n, -9223372036854775808 ≤ x ∧ x ≤ 9223372036854775807) {tk1 tk2 : Tk} {σ : AST} {K : AV → AST → Prop}
    (hK : K (.bool true) σ) : TCalls Try.prog 4 [.str s, .slice tk1 (n.map (AV.int .i64)), .slice tk2 (l.map AV.str)] σ K := by
  refine TCalls.drop ?_
  refine tcalls_walk Try.f4 _ [.tmp 6] Try.func4 rfl rfl rfl mixed (Nat.le_of_ble_eq_true rfl) rfl fun hlen => ?_
  have h1 : n.length ≤ 9223372036854775807 := by
    have := hlen (.slice tk1 (n.map (AV.int .i64))) (by simp)
    simp only [lenOk, List.length_map, maxL] at this; exact this
  have h2 : l.length ≤ 9223372036854775807 := by
    have := hlen (.slice tk2 (l.map AV.str)) (by simp)
    simp only [lenOk, List.length_map, maxL] at this; exact this
  simp -dsimp only [↓reduceIte, go_sem]
  refine text_c ?_
  generalize ha : (if 16384 < s.length then AV.tuple [.str [], .int .i64 4] else .tuple [.str (textS s), .int .i64 0]) = A
  obtain ⟨a, e, rfl⟩ : ∃ a e, A = .tuple [.str a, .int .i64 e] := by subst ha; split <;> exact ⟨_, _, rfl⟩
  simp -dsimp only [↓reduceIte, go_sem]
  refine Text_c ?_
  rw [ha]
  simp -dsimp only [↓reduceIte, go_sem]
  have fin : ∀ s' : AST, Ext σ s' → Ext σ s' ∧ (AV.bool true).noRef = true ∧ K (AV.bool true).strip σ := fun s' hx => ⟨hx, rfl, by simpa [AV.strip] using hK⟩
  refine arr_intro fun _ => ?_
  simp only [List.length_map]
  simp -dsimp only [↓reduceIte, go_sem]
  refine guardV_split (fun h3 => ?_) (fun h3 => ?_) <;> (try rw [h3])
  · have h3 : ¬ 600 < n.length := by simp at h3; omega
    simp -dsimp only [↓reduceIte, go_sem]
    refine arr_intro fun _ => ?_
    simp only [List.length_map]
    simp -dsimp only [↓reduceIte, go_sem]
    refine boolW_split (fun h4 => ?_) (fun h4 => ?_)
    · have h4 : 600 < l.length := by simp at h4; omega
      simp -dsimp only [↓reduceIte, go_sem]
      refine awake_c ?_
      simp -dsimp only [↓reduceIte, go_sem]
      exact fin _ (Ext.refl _)
    · have h4 : ¬ 600 < l.length := by simp at h4; omega
      simp -dsimp only [↓reduceIte, go_sem]
      refine numbers_c hn ?_
      generalize hb : (if 512 < n.length then AV.tuple [.str [], .int .i64 4] else .tuple [.str (laidAll numS n), .int .i64 0]) = B
      obtain ⟨b, f, rfl⟩ : ∃ a e, B = .tuple [.str a, .int .i64 e] := by subst hb; split <;> exact ⟨_, _, rfl⟩
      simp -dsimp only [↓reduceIte, go_sem]
      refine Numbers_c hn ?_
      rw [hb]
      simp -dsimp only [↓reduceIte, go_sem]
      refine texts_c ?_
      generalize hc : textsR l = C
      obtain ⟨c, g, rfl⟩ : ∃ a e, C = .tuple [.str a, .int .i64 e] := by subst hc; unfold textsR; split <;> exact ⟨_, _, rfl⟩
      simp -dsimp only [↓reduceIte, go_sem]
      refine Texts_c ?_
      rw [hc]
      simp -dsimp only [↓reduceIte, go_sem]
      refine awake_c ?_
      simp -dsimp only [↓reduceIte, go_sem]
      exact fin _ (Ext.refl _)
  · have h3 : 600 < n.length := by simp at h3; omega
    simp -dsimp only [↓reduceIte, go_sem]
    refine awake_c ?_
    simp -dsimp only [↓reduceIte, go_sem]
    exact fin _ (Ext.refl _)
end Go.Aff.L01
